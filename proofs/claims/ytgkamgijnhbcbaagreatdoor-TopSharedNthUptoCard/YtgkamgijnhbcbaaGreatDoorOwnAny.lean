/- The functions of the law that make a tree of their own. -/
import Derived.Test.YtgkamgijnhbcbaaGreatDoorCopied
import Derived.Test.YtgkamgijnhbcbaaGreatDoorOwn
import Derived.WalkKit
import Derived.WalkSpells
import Derived.WalkLawsBesides
namespace Go.Proofs.YtgkamgijnhbcbaaGreatDoor
open Go.RowKit Go.Vt Go.Proofs
set_option maxRecDepth 100000 in
set_option maxHeartbeats 400000 in
theorem own_ownSharedHas_of (n : Nat) (h47 : OwnA Tryz.prog tab n 47 [.sl 132]) (h48 : OwnS Tryz.prog tab n 48 5) (h49 : OwnS Tryz.prog tab n 49 45) : OwnA Tryz.prog tab n 7 [.sl 132, .int .i64, .int .u8, .sl 5, .sl 45] := by
  intro F w vs cs hn hl ht0 hr0 hF
  obtain ⟨c0, cs0, rfl, a0, ht1⟩ := ht0.cons
  obtain ⟨v0, vs0, rfl, b0, hr1⟩ := hr0.cons
  obtain ⟨c1, cs1, rfl, a1, ht2⟩ := ht1.cons
  obtain ⟨v1, vs1, rfl, b1, hr2⟩ := hr1.cons
  obtain ⟨c2, cs2, rfl, a2, ht3⟩ := ht2.cons
  obtain ⟨v2, vs2, rfl, b2, hr3⟩ := hr2.cons
  obtain ⟨c3, cs3, rfl, a3, ht4⟩ := ht3.cons
  obtain ⟨v3, vs3, rfl, b3, hr4⟩ := hr3.cons
  obtain ⟨c4, cs4, rfl, a4, ht5⟩ := ht4.cons
  obtain ⟨v4, vs4, rfl, b4, hr5⟩ := hr4.cons
  obtain rfl := ht5.nil
  obtain rfl := hr5.nil
  obtain ⟨va0, vl0, vk0, rfl⟩ := Ht.slf a0 b0
  obtain ⟨va1, rfl⟩ := Ht.intf a1 b1
  obtain ⟨va2, rfl⟩ := Ht.intf a2 b2
  obtain ⟨va3, vl3, vk3, rfl⟩ := Ht.slf a3 b3
  obtain ⟨va4, vl4, vk4, rfl⟩ := Ht.slf a4 b4
  simp only [nodesRow, Nat.add_zero] at hn hl
  have H47 := Lib.hid h47
  clear h47
  have H48 := Lib.hid h48
  clear h48
  have H49 := Lib.hid h49
  clear h49
  have HN := Lib.hid hn
  have HL := Lib.hid hl
  clear hn hl
  have hS : ∀ k, k < w.heap.size → ¬ (k = w.heap.size ∨ k = w.heap.size + 1) := fun k hk => by omega
  have g0 : Fr (fun k => k = w.heap.size ∨ k = w.heap.size + 1) w ((w.alloc (Obj.cells #[(.slice va0 vl0 vk0), (.int .i64 va1), (.int .u8 va2), (.slice va3 vl3 vk3), (.slice va4 vl4 vk4)] 28)).alloc (Obj.cells #[(.slice none 0 0), (.int .i64 0), (.int .u8 0), (.slice none 0 0), (.slice none 0 0)] 28)) := ((Fr.refl _ _).alloc _).alloc _
  have s0 : ((w.alloc (Obj.cells #[(.slice va0 vl0 vk0), (.int .i64 va1), (.int .u8 va2), (.slice va3 vl3 vk3), (.slice va4 vl4 vk4)] 28)).alloc (Obj.cells #[(.slice none 0 0), (.int .i64 0), (.int .u8 0), (.slice none 0 0), (.slice none 0 0)] 28)).heap.size = w.heap.size + 2 := by rw [alloc_size, alloc_size]
  have x0 : ((w.alloc (Obj.cells #[(.slice va0 vl0 vk0), (.int .i64 va1), (.int .u8 va2), (.slice va3 vl3 vk3), (.slice va4 vl4 vk4)] 28)).alloc (Obj.cells #[(.slice none 0 0), (.int .i64 0), (.int .u8 0), (.slice none 0 0), (.slice none 0 0)] 28)).heap[w.heap.size]? = some (.cells #[(.slice va0 vl0 vk0), (.int .i64 va1), (.int .u8 va2), (.slice va3 vl3 vk3), (.slice va4 vl4 vk4)] 28 (0, 0)) := (Below.heap_alloc _ _ _ (by rw [alloc_size]; omega)).trans (heap_alloc_new w _)
  have y0 : ((w.alloc (Obj.cells #[(.slice va0 vl0 vk0), (.int .i64 va1), (.int .u8 va2), (.slice va3 vl3 vk3), (.slice va4 vl4 vk4)] 28)).alloc (Obj.cells #[(.slice none 0 0), (.int .i64 0), (.int .u8 0), (.slice none 0 0), (.slice none 0 0)] 28)).heap[w.heap.size + 1]? = some (.cells #[(.slice none 0 0), (.int .i64 0), (.int .u8 0), (.slice none 0 0), (.slice none 0 0)] 28 (0, 0)) := by
    have := heap_alloc_new (w.alloc (Obj.cells #[(.slice va0 vl0 vk0), (.int .i64 va1), (.int .u8 va2), (.slice va3 vl3 vk3), (.slice va4 vl4 vk4)] 28)) (Obj.cells #[(.slice none 0 0), (.int .i64 0), (.int .u8 0), (.slice none 0 0), (.slice none 0 0)] 28); rwa [alloc_size] at this
  go_enter Tryz.func7, Tryz.ntmps7
  go_wp2_with fail
  generalize hW0 : (w.alloc (Obj.cells #[(.slice va0 vl0 vk0), (.int .i64 va1), (.int .u8 va2), (.slice va3 vl3 vk3), (.slice va4 vl4 vk4)] 28)).alloc (Obj.cells #[(.slice none 0 0), (.int .i64 0), (.int .u8 0), (.slice none 0 0), (.slice none 0 0)] 28) = W0 at *
  clear hW0
  refine (H47.out F W0 [(.slice va0 vl0 vk0)] [c0] (by have := HN.out; simp only [nodesRow, Nat.add_zero]; omega) (by have := HL.out; simp only [nodesRow, Nat.add_zero]; omega) (by simp only [HtRow]; exact ⟨a0, trivial⟩) ⟨Rd.mono (rd_fr hF g0 hS) _ _ b0, trivial⟩ (fun k hk => Nat.lt_of_lt_of_le (hF k hk) g0.size)).mono ?_
  rintro e0 w1 ⟨vs0, ds0, rfl, o0, l0⟩
  have hlu0 := o0.len
  change vs0.length = 1 at hlu0
  obtain ⟨u0, ul0, rfl, hlu0_0⟩ := len_cons hlu0
  obtain rfl := len_nil hlu0_0
  obtain ⟨d0, ds0, rfl, o0_0, o0t0⟩ := o0.cons
  obtain rfl := o0t0.nil
  obtain ⟨ua0, ul0, uk0, rfl⟩ := o0_0.slf
  have z0 : w.heap.size + 2 ≤ W0.heap.size := by omega
  have p0 : w1.heap[w.heap.size]? = some (.cells #[(.slice va0 vl0 vk0), (.int .i64 va1), (.int .u8 va2), (.slice va3 vl3 vk3), (.slice va4 vl4 vk4)] 28 (0, 0)) := (l0.block _ (by omega)).trans x0
  have q0 : w1.heap[w.heap.size + 1]? = some (.cells #[(.slice none 0 0), (.int .i64 0), (.int .u8 0), (.slice none 0 0), (.slice none 0 0)] 28 (0, 0)) := (l0.block _ (by omega)).trans y0
  have p0_0 : w1.cell? ⟨w.heap.size, 0, none⟩ = some (.slice va0 vl0 vk0) := cell_of_row _ _ 0 _ _ _ p0
  have q0_0 : w1.cell? ⟨w.heap.size + 1, 0, none⟩ = some (.slice none 0 0) := cell_of_row _ _ 0 _ _ _ q0
  have p0_1 : w1.cell? ⟨w.heap.size, 1, none⟩ = some (.int .i64 va1) := cell_of_row _ _ 1 _ _ _ p0
  have q0_1 : w1.cell? ⟨w.heap.size + 1, 1, none⟩ = some (.int .i64 0) := cell_of_row _ _ 1 _ _ _ q0
  have p0_2 : w1.cell? ⟨w.heap.size, 2, none⟩ = some (.int .u8 va2) := cell_of_row _ _ 2 _ _ _ p0
  have q0_2 : w1.cell? ⟨w.heap.size + 1, 2, none⟩ = some (.int .u8 0) := cell_of_row _ _ 2 _ _ _ q0
  have p0_3 : w1.cell? ⟨w.heap.size, 3, none⟩ = some (.slice va3 vl3 vk3) := cell_of_row _ _ 3 _ _ _ p0
  have q0_3 : w1.cell? ⟨w.heap.size + 1, 3, none⟩ = some (.slice none 0 0) := cell_of_row _ _ 3 _ _ _ q0
  have p0_4 : w1.cell? ⟨w.heap.size, 4, none⟩ = some (.slice va4 vl4 vk4) := cell_of_row _ _ 4 _ _ _ p0
  have q0_4 : w1.cell? ⟨w.heap.size + 1, 4, none⟩ = some (.slice none 0 0) := cell_of_row _ _ 4 _ _ _ q0
  have f0 : ∀ o, w1.frozen? ⟨w.heap.size, o, none⟩ = false := fun o => by simp [World.frozen?, p0]
  have f0' : ∀ o, w1.frozen? ⟨w.heap.size + 1, o, none⟩ = false := fun o => by simp [World.frozen?, q0]
  have g1 : Fr (fun k => k = w.heap.size ∨ k = w.heap.size + 1) w (w1.setCell ⟨w.heap.size, 0, none⟩ (.slice ua0 ul0 uk0)) := ((g0.trans' (Fr.of_below l0 (fun k => k = w.heap.size ∨ k = w.heap.size + 1)) (fun _ _ h => h)).setCell (p := ⟨w.heap.size, 0, none⟩) (fun _ => .inl rfl) (.slice ua0 ul0 uk0))
  have t0 : Fr (fun k => k = w.heap.size ∨ k = w.heap.size + 1) w1 (w1.setCell ⟨w.heap.size, 0, none⟩ (.slice ua0 ul0 uk0)) := ((Fr.refl (fun k => k = w.heap.size ∨ k = w.heap.size + 1) w1).setCell (p := ⟨w.heap.size, 0, none⟩) (fun _ => .inl rfl) (.slice ua0 ul0 uk0))
  have x1 : (w1.setCell ⟨w.heap.size, 0, none⟩ (.slice ua0 ul0 uk0)).heap[w.heap.size]? = some (.cells #[(.slice ua0 ul0 uk0), (.int .i64 va1), (.int .u8 va2), (.slice va3 vl3 vk3), (.slice va4 vl4 vk4)] 28 (0, 0)) := (heap_setCell_at (o := 0) (u := (.slice ua0 ul0 uk0)) p0)
  have y1 : (w1.setCell ⟨w.heap.size, 0, none⟩ (.slice ua0 ul0 uk0)).heap[w.heap.size + 1]? = some (.cells #[(.slice none 0 0), (.int .i64 0), (.int .u8 0), (.slice none 0 0), (.slice none 0 0)] 28 (0, 0)) := by
    rw [Below.heap_setCell _ _ _ _ (by simp)]; exact q0
  have z0' : w.heap.size + 2 ≤ (w1.setCell ⟨w.heap.size, 0, none⟩ (.slice ua0 ul0 uk0)).heap.size := Nat.le_trans (Nat.le_trans z0 l0.size) t0.size
  go_wp2_with fail
  generalize hW1 : (w1.setCell ⟨w.heap.size, 0, none⟩ (.slice ua0 ul0 uk0)) = W1 at *
  clear hW1 p0_0 q0_0 p0_1 q0_1 p0_2 q0_2 p0_3 q0_3 p0_4 q0_4 f0 f0'
  refine (H48.out F W1 (.slice va3 vl3 vk3) c3 (by have := HN.out; omega) (by have := HL.out; omega) a3 (Rd.mono (rd_fr hF g1 hS) _ _ b3) (fun k hk => Nat.lt_of_lt_of_le (hF k hk) g1.size)).mono ?_
  rintro e1 w2 ⟨u3, d3, rfl, o1, l1⟩
  obtain ⟨ua3, ul3, uk3, rfl⟩ := o1.slf
  have z1 : w.heap.size + 2 ≤ W1.heap.size := by omega
  have p1 : w2.heap[w.heap.size]? = some (.cells #[(.slice ua0 ul0 uk0), (.int .i64 va1), (.int .u8 va2), (.slice va3 vl3 vk3), (.slice va4 vl4 vk4)] 28 (0, 0)) := (l1.block _ (by omega)).trans x1
  have q1 : w2.heap[w.heap.size + 1]? = some (.cells #[(.slice none 0 0), (.int .i64 0), (.int .u8 0), (.slice none 0 0), (.slice none 0 0)] 28 (0, 0)) := (l1.block _ (by omega)).trans y1
  have p1_0 : w2.cell? ⟨w.heap.size, 0, none⟩ = some (.slice ua0 ul0 uk0) := cell_of_row _ _ 0 _ _ _ p1
  have q1_0 : w2.cell? ⟨w.heap.size + 1, 0, none⟩ = some (.slice none 0 0) := cell_of_row _ _ 0 _ _ _ q1
  have p1_1 : w2.cell? ⟨w.heap.size, 1, none⟩ = some (.int .i64 va1) := cell_of_row _ _ 1 _ _ _ p1
  have q1_1 : w2.cell? ⟨w.heap.size + 1, 1, none⟩ = some (.int .i64 0) := cell_of_row _ _ 1 _ _ _ q1
  have p1_2 : w2.cell? ⟨w.heap.size, 2, none⟩ = some (.int .u8 va2) := cell_of_row _ _ 2 _ _ _ p1
  have q1_2 : w2.cell? ⟨w.heap.size + 1, 2, none⟩ = some (.int .u8 0) := cell_of_row _ _ 2 _ _ _ q1
  have p1_3 : w2.cell? ⟨w.heap.size, 3, none⟩ = some (.slice va3 vl3 vk3) := cell_of_row _ _ 3 _ _ _ p1
  have q1_3 : w2.cell? ⟨w.heap.size + 1, 3, none⟩ = some (.slice none 0 0) := cell_of_row _ _ 3 _ _ _ q1
  have p1_4 : w2.cell? ⟨w.heap.size, 4, none⟩ = some (.slice va4 vl4 vk4) := cell_of_row _ _ 4 _ _ _ p1
  have q1_4 : w2.cell? ⟨w.heap.size + 1, 4, none⟩ = some (.slice none 0 0) := cell_of_row _ _ 4 _ _ _ q1
  have f1 : ∀ o, w2.frozen? ⟨w.heap.size, o, none⟩ = false := fun o => by simp [World.frozen?, p1]
  have f1' : ∀ o, w2.frozen? ⟨w.heap.size + 1, o, none⟩ = false := fun o => by simp [World.frozen?, q1]
  have g2 : Fr (fun k => k = w.heap.size ∨ k = w.heap.size + 1) w (w2.setCell ⟨w.heap.size, 3, none⟩ (.slice ua3 ul3 uk3)) := ((g1.trans' (Fr.of_below l1 (fun k => k = w.heap.size ∨ k = w.heap.size + 1)) (fun _ _ h => h)).setCell (p := ⟨w.heap.size, 3, none⟩) (fun _ => .inl rfl) (.slice ua3 ul3 uk3))
  have t1 : Fr (fun k => k = w.heap.size ∨ k = w.heap.size + 1) w2 (w2.setCell ⟨w.heap.size, 3, none⟩ (.slice ua3 ul3 uk3)) := ((Fr.refl (fun k => k = w.heap.size ∨ k = w.heap.size + 1) w2).setCell (p := ⟨w.heap.size, 3, none⟩) (fun _ => .inl rfl) (.slice ua3 ul3 uk3))
  have x2 : (w2.setCell ⟨w.heap.size, 3, none⟩ (.slice ua3 ul3 uk3)).heap[w.heap.size]? = some (.cells #[(.slice ua0 ul0 uk0), (.int .i64 va1), (.int .u8 va2), (.slice ua3 ul3 uk3), (.slice va4 vl4 vk4)] 28 (0, 0)) := (heap_setCell_at (o := 3) (u := (.slice ua3 ul3 uk3)) p1)
  have y2 : (w2.setCell ⟨w.heap.size, 3, none⟩ (.slice ua3 ul3 uk3)).heap[w.heap.size + 1]? = some (.cells #[(.slice none 0 0), (.int .i64 0), (.int .u8 0), (.slice none 0 0), (.slice none 0 0)] 28 (0, 0)) := by
    rw [Below.heap_setCell _ _ _ _ (by simp)]; exact q1
  have z1' : w.heap.size + 2 ≤ (w2.setCell ⟨w.heap.size, 3, none⟩ (.slice ua3 ul3 uk3)).heap.size := Nat.le_trans (Nat.le_trans z1 l1.size) t1.size
  go_wp2_with fail
  generalize hW2 : (w2.setCell ⟨w.heap.size, 3, none⟩ (.slice ua3 ul3 uk3)) = W2 at *
  clear hW2 p1_0 q1_0 p1_1 q1_1 p1_2 q1_2 p1_3 q1_3 p1_4 q1_4 f1 f1'
  refine (H49.out F W2 (.slice va4 vl4 vk4) c4 (by have := HN.out; omega) (by have := HL.out; omega) a4 (Rd.mono (rd_fr hF g2 hS) _ _ b4) (fun k hk => Nat.lt_of_lt_of_le (hF k hk) g2.size)).mono ?_
  rintro e2 w3 ⟨u4, d4, rfl, o2, l2⟩
  obtain ⟨ua4, ul4, uk4, rfl⟩ := o2.slf
  have z2 : w.heap.size + 2 ≤ W2.heap.size := by omega
  have p2 : w3.heap[w.heap.size]? = some (.cells #[(.slice ua0 ul0 uk0), (.int .i64 va1), (.int .u8 va2), (.slice ua3 ul3 uk3), (.slice va4 vl4 vk4)] 28 (0, 0)) := (l2.block _ (by omega)).trans x2
  have q2 : w3.heap[w.heap.size + 1]? = some (.cells #[(.slice none 0 0), (.int .i64 0), (.int .u8 0), (.slice none 0 0), (.slice none 0 0)] 28 (0, 0)) := (l2.block _ (by omega)).trans y2
  have p2_0 : w3.cell? ⟨w.heap.size, 0, none⟩ = some (.slice ua0 ul0 uk0) := cell_of_row _ _ 0 _ _ _ p2
  have q2_0 : w3.cell? ⟨w.heap.size + 1, 0, none⟩ = some (.slice none 0 0) := cell_of_row _ _ 0 _ _ _ q2
  have p2_1 : w3.cell? ⟨w.heap.size, 1, none⟩ = some (.int .i64 va1) := cell_of_row _ _ 1 _ _ _ p2
  have q2_1 : w3.cell? ⟨w.heap.size + 1, 1, none⟩ = some (.int .i64 0) := cell_of_row _ _ 1 _ _ _ q2
  have p2_2 : w3.cell? ⟨w.heap.size, 2, none⟩ = some (.int .u8 va2) := cell_of_row _ _ 2 _ _ _ p2
  have q2_2 : w3.cell? ⟨w.heap.size + 1, 2, none⟩ = some (.int .u8 0) := cell_of_row _ _ 2 _ _ _ q2
  have p2_3 : w3.cell? ⟨w.heap.size, 3, none⟩ = some (.slice ua3 ul3 uk3) := cell_of_row _ _ 3 _ _ _ p2
  have q2_3 : w3.cell? ⟨w.heap.size + 1, 3, none⟩ = some (.slice none 0 0) := cell_of_row _ _ 3 _ _ _ q2
  have p2_4 : w3.cell? ⟨w.heap.size, 4, none⟩ = some (.slice va4 vl4 vk4) := cell_of_row _ _ 4 _ _ _ p2
  have q2_4 : w3.cell? ⟨w.heap.size + 1, 4, none⟩ = some (.slice none 0 0) := cell_of_row _ _ 4 _ _ _ q2
  have f2 : ∀ o, w3.frozen? ⟨w.heap.size, o, none⟩ = false := fun o => by simp [World.frozen?, p2]
  have f2' : ∀ o, w3.frozen? ⟨w.heap.size + 1, o, none⟩ = false := fun o => by simp [World.frozen?, q2]
  have g3 : Fr (fun k => k = w.heap.size ∨ k = w.heap.size + 1) w (w3.setCell ⟨w.heap.size, 4, none⟩ (.slice ua4 ul4 uk4)) := ((g2.trans' (Fr.of_below l2 (fun k => k = w.heap.size ∨ k = w.heap.size + 1)) (fun _ _ h => h)).setCell (p := ⟨w.heap.size, 4, none⟩) (fun _ => .inl rfl) (.slice ua4 ul4 uk4))
  have t2 : Fr (fun k => k = w.heap.size ∨ k = w.heap.size + 1) w3 (w3.setCell ⟨w.heap.size, 4, none⟩ (.slice ua4 ul4 uk4)) := ((Fr.refl (fun k => k = w.heap.size ∨ k = w.heap.size + 1) w3).setCell (p := ⟨w.heap.size, 4, none⟩) (fun _ => .inl rfl) (.slice ua4 ul4 uk4))
  have x3 : (w3.setCell ⟨w.heap.size, 4, none⟩ (.slice ua4 ul4 uk4)).heap[w.heap.size]? = some (.cells #[(.slice ua0 ul0 uk0), (.int .i64 va1), (.int .u8 va2), (.slice ua3 ul3 uk3), (.slice ua4 ul4 uk4)] 28 (0, 0)) := (heap_setCell_at (o := 4) (u := (.slice ua4 ul4 uk4)) p2)
  have y3 : (w3.setCell ⟨w.heap.size, 4, none⟩ (.slice ua4 ul4 uk4)).heap[w.heap.size + 1]? = some (.cells #[(.slice none 0 0), (.int .i64 0), (.int .u8 0), (.slice none 0 0), (.slice none 0 0)] 28 (0, 0)) := by
    rw [Below.heap_setCell _ _ _ _ (by simp)]; exact q2
  have z2' : w.heap.size + 2 ≤ (w3.setCell ⟨w.heap.size, 4, none⟩ (.slice ua4 ul4 uk4)).heap.size := Nat.le_trans (Nat.le_trans z2 l2.size) t2.size
  go_wp2
  have fin : Fr (fun k => k = w.heap.size ∨ k = w.heap.size + 1) (w3.setCell ⟨w.heap.size, 4, none⟩ (.slice ua4 ul4 uk4)) ((((((w3.setCell ⟨w.heap.size, 4, none⟩ (.slice ua4 ul4 uk4)).setCell ⟨w.heap.size + 1, 0, none⟩ (.slice ua0 ul0 uk0)).setCell ⟨w.heap.size + 1, 1, none⟩ (.int .i64 va1)).setCell ⟨w.heap.size + 1, 2, none⟩ (.int .u8 va2)).setCell ⟨w.heap.size + 1, 3, none⟩ (.slice ua3 ul3 uk3)).setCell ⟨w.heap.size + 1, 4, none⟩ (.slice ua4 ul4 uk4)) := ((((((Fr.refl (fun k => k = w.heap.size ∨ k = w.heap.size + 1) (w3.setCell ⟨w.heap.size, 4, none⟩ (.slice ua4 ul4 uk4))).setCell (p := ⟨w.heap.size + 1, 0, none⟩) (fun _ => .inr rfl) (.slice ua0 ul0 uk0)).setCell (p := ⟨w.heap.size + 1, 1, none⟩) (fun _ => .inr rfl) (.int .i64 va1)).setCell (p := ⟨w.heap.size + 1, 2, none⟩) (fun _ => .inr rfl) (.int .u8 va2)).setCell (p := ⟨w.heap.size + 1, 3, none⟩) (fun _ => .inr rfl) (.slice ua3 ul3 uk3)).setCell (p := ⟨w.heap.size + 1, 4, none⟩) (fun _ => .inr rfl) (.slice ua4 ul4 uk4))
  have yf : ((((((w3.setCell ⟨w.heap.size, 4, none⟩ (.slice ua4 ul4 uk4)).setCell ⟨w.heap.size + 1, 0, none⟩ (.slice ua0 ul0 uk0)).setCell ⟨w.heap.size + 1, 1, none⟩ (.int .i64 va1)).setCell ⟨w.heap.size + 1, 2, none⟩ (.int .u8 va2)).setCell ⟨w.heap.size + 1, 3, none⟩ (.slice ua3 ul3 uk3)).setCell ⟨w.heap.size + 1, 4, none⟩ (.slice ua4 ul4 uk4)).heap[w.heap.size + 1]? = some (.cells #[(.slice ua0 ul0 uk0), (.int .i64 va1), (.int .u8 va2), (.slice ua3 ul3 uk3), (.slice ua4 ul4 uk4)] 28 (0, 0)) := (heap_setCell_at (o := 4) (u := (.slice ua4 ul4 uk4)) (heap_setCell_at (o := 3) (u := (.slice ua3 ul3 uk3)) (heap_setCell_at (o := 2) (u := (.int .u8 va2)) (heap_setCell_at (o := 1) (u := (.int .i64 va1)) (heap_setCell_at (o := 0) (u := (.slice ua0 ul0 uk0)) y3)))))
  generalize ((((((w3.setCell ⟨w.heap.size, 4, none⟩ (.slice ua4 ul4 uk4)).setCell ⟨w.heap.size + 1, 0, none⟩ (.slice ua0 ul0 uk0)).setCell ⟨w.heap.size + 1, 1, none⟩ (.int .i64 va1)).setCell ⟨w.heap.size + 1, 2, none⟩ (.int .u8 va2)).setCell ⟨w.heap.size + 1, 3, none⟩ (.slice ua3 ul3 uk3)).setCell ⟨w.heap.size + 1, 4, none⟩ (.slice ua4 ul4 uk4)) = WF at *
  have e0 : WF.cell? ⟨w.heap.size + 1, 0, none⟩ = some (.slice ua0 ul0 uk0) := cell_of_row _ _ 0 _ _ _ yf
  have e1 : WF.cell? ⟨w.heap.size + 1, 1, none⟩ = some (.int .i64 va1) := cell_of_row _ _ 1 _ _ _ yf
  have e2 : WF.cell? ⟨w.heap.size + 1, 2, none⟩ = some (.int .u8 va2) := cell_of_row _ _ 2 _ _ _ yf
  have e3 : WF.cell? ⟨w.heap.size + 1, 3, none⟩ = some (.slice ua3 ul3 uk3) := cell_of_row _ _ 3 _ _ _ yf
  have e4 : WF.cell? ⟨w.heap.size + 1, 4, none⟩ = some (.slice ua4 ul4 uk4) := cell_of_row _ _ 4 _ _ _ yf
  refine bodyPost_ret (v := .agg #[(.slice ua0 ul0 uk0), (.int .i64 va1), (.int .u8 va2), (.slice ua3 ul3 uk3), (.slice ua4 ul4 uk4)]) (by simp [results, Tryz.results7, go_sem, e0, e1, e2, e3, e4]) rfl ?_
  exact ⟨[(.slice ua0 ul0 uk0), (.int .i64 va1), (.int .u8 va2), (.slice ua3 ul3 uk3), (.slice ua4 ul4 uk4)], [d0, c1, c2, d3, d4], rfl, ⟨o0_0.keep (((t0.trans' (Fr.of_below l1 (fun k => k = w.heap.size ∨ k = w.heap.size + 1)) (fun _ _ h => h)).trans ((t1.trans' (Fr.of_below l2 (fun k => k = w.heap.size ∨ k = w.heap.size + 1)) (fun _ _ h => h)).trans t2)).trans fin) (fun k h1 h2 => by omega) (by omega), Owned.scalar rfl a1 b1, Owned.scalar rfl a2 b2, o1.keep (((t1.trans' (Fr.of_below l2 (fun k => k = w.heap.size ∨ k = w.heap.size + 1)) (fun _ _ h => h)).trans t2).trans fin) (fun k h1 h2 => by omega) (by omega), o2.keep (t2.trans fin) (fun k h1 h2 => by omega) (by omega), trivial⟩, (g3.trans fin).below (Nat.le_refl _) hS⟩
set_option maxRecDepth 100000 in
set_option maxHeartbeats 400000 in
theorem own_ownSharedNth_of (n : Nat) (h47 : OwnA Tryz.prog tab n 47 [.sl 132]) (h63 : OwnS Tryz.prog tab n 63 4) : OwnA Tryz.prog tab n 21 [.sl 132, .int .i64, .bool, .sl 4, .int .i64, .int .i64] := by
  intro F w vs cs hn hl ht0 hr0 hF
  obtain ⟨c0, cs0, rfl, a0, ht1⟩ := ht0.cons
  obtain ⟨v0, vs0, rfl, b0, hr1⟩ := hr0.cons
  obtain ⟨c1, cs1, rfl, a1, ht2⟩ := ht1.cons
  obtain ⟨v1, vs1, rfl, b1, hr2⟩ := hr1.cons
  obtain ⟨c2, cs2, rfl, a2, ht3⟩ := ht2.cons
  obtain ⟨v2, vs2, rfl, b2, hr3⟩ := hr2.cons
  obtain ⟨c3, cs3, rfl, a3, ht4⟩ := ht3.cons
  obtain ⟨v3, vs3, rfl, b3, hr4⟩ := hr3.cons
  obtain ⟨c4, cs4, rfl, a4, ht5⟩ := ht4.cons
  obtain ⟨v4, vs4, rfl, b4, hr5⟩ := hr4.cons
  obtain ⟨c5, cs5, rfl, a5, ht6⟩ := ht5.cons
  obtain ⟨v5, vs5, rfl, b5, hr6⟩ := hr5.cons
  obtain rfl := ht6.nil
  obtain rfl := hr6.nil
  obtain ⟨va0, vl0, vk0, rfl⟩ := Ht.slf a0 b0
  obtain ⟨va1, rfl⟩ := Ht.intf a1 b1
  obtain ⟨va2, rfl⟩ := Ht.boolf a2 b2
  obtain ⟨va3, vl3, vk3, rfl⟩ := Ht.slf a3 b3
  obtain ⟨va4, rfl⟩ := Ht.intf a4 b4
  obtain ⟨va5, rfl⟩ := Ht.intf a5 b5
  simp only [nodesRow, Nat.add_zero] at hn hl
  have H47 := Lib.hid h47
  clear h47
  have H63 := Lib.hid h63
  clear h63
  have HN := Lib.hid hn
  have HL := Lib.hid hl
  clear hn hl
  have hS : ∀ k, k < w.heap.size → ¬ (k = w.heap.size ∨ k = w.heap.size + 1) := fun k hk => by omega
  have g0 : Fr (fun k => k = w.heap.size ∨ k = w.heap.size + 1) w ((w.alloc (Obj.cells #[(.slice va0 vl0 vk0), (.int .i64 va1), (.bool va2), (.slice va3 vl3 vk3), (.int .i64 va4), (.int .i64 va5)] 56)).alloc (Obj.cells #[(.slice none 0 0), (.int .i64 0), (.bool false), (.slice none 0 0), (.int .i64 0), (.int .i64 0)] 56)) := ((Fr.refl _ _).alloc _).alloc _
  have s0 : ((w.alloc (Obj.cells #[(.slice va0 vl0 vk0), (.int .i64 va1), (.bool va2), (.slice va3 vl3 vk3), (.int .i64 va4), (.int .i64 va5)] 56)).alloc (Obj.cells #[(.slice none 0 0), (.int .i64 0), (.bool false), (.slice none 0 0), (.int .i64 0), (.int .i64 0)] 56)).heap.size = w.heap.size + 2 := by rw [alloc_size, alloc_size]
  have x0 : ((w.alloc (Obj.cells #[(.slice va0 vl0 vk0), (.int .i64 va1), (.bool va2), (.slice va3 vl3 vk3), (.int .i64 va4), (.int .i64 va5)] 56)).alloc (Obj.cells #[(.slice none 0 0), (.int .i64 0), (.bool false), (.slice none 0 0), (.int .i64 0), (.int .i64 0)] 56)).heap[w.heap.size]? = some (.cells #[(.slice va0 vl0 vk0), (.int .i64 va1), (.bool va2), (.slice va3 vl3 vk3), (.int .i64 va4), (.int .i64 va5)] 56 (0, 0)) := (Below.heap_alloc _ _ _ (by rw [alloc_size]; omega)).trans (heap_alloc_new w _)
  have y0 : ((w.alloc (Obj.cells #[(.slice va0 vl0 vk0), (.int .i64 va1), (.bool va2), (.slice va3 vl3 vk3), (.int .i64 va4), (.int .i64 va5)] 56)).alloc (Obj.cells #[(.slice none 0 0), (.int .i64 0), (.bool false), (.slice none 0 0), (.int .i64 0), (.int .i64 0)] 56)).heap[w.heap.size + 1]? = some (.cells #[(.slice none 0 0), (.int .i64 0), (.bool false), (.slice none 0 0), (.int .i64 0), (.int .i64 0)] 56 (0, 0)) := by
    have := heap_alloc_new (w.alloc (Obj.cells #[(.slice va0 vl0 vk0), (.int .i64 va1), (.bool va2), (.slice va3 vl3 vk3), (.int .i64 va4), (.int .i64 va5)] 56)) (Obj.cells #[(.slice none 0 0), (.int .i64 0), (.bool false), (.slice none 0 0), (.int .i64 0), (.int .i64 0)] 56); rwa [alloc_size] at this
  go_enter Tryz.func21, Tryz.ntmps21
  go_wp2_with fail
  generalize hW0 : (w.alloc (Obj.cells #[(.slice va0 vl0 vk0), (.int .i64 va1), (.bool va2), (.slice va3 vl3 vk3), (.int .i64 va4), (.int .i64 va5)] 56)).alloc (Obj.cells #[(.slice none 0 0), (.int .i64 0), (.bool false), (.slice none 0 0), (.int .i64 0), (.int .i64 0)] 56) = W0 at *
  clear hW0
  refine (H47.out F W0 [(.slice va0 vl0 vk0)] [c0] (by have := HN.out; simp only [nodesRow, Nat.add_zero]; omega) (by have := HL.out; simp only [nodesRow, Nat.add_zero]; omega) (by simp only [HtRow]; exact ⟨a0, trivial⟩) ⟨Rd.mono (rd_fr hF g0 hS) _ _ b0, trivial⟩ (fun k hk => Nat.lt_of_lt_of_le (hF k hk) g0.size)).mono ?_
  rintro e0 w1 ⟨vs0, ds0, rfl, o0, l0⟩
  have hlu0 := o0.len
  change vs0.length = 1 at hlu0
  obtain ⟨u0, ul0, rfl, hlu0_0⟩ := len_cons hlu0
  obtain rfl := len_nil hlu0_0
  obtain ⟨d0, ds0, rfl, o0_0, o0t0⟩ := o0.cons
  obtain rfl := o0t0.nil
  obtain ⟨ua0, ul0, uk0, rfl⟩ := o0_0.slf
  have z0 : w.heap.size + 2 ≤ W0.heap.size := by omega
  have p0 : w1.heap[w.heap.size]? = some (.cells #[(.slice va0 vl0 vk0), (.int .i64 va1), (.bool va2), (.slice va3 vl3 vk3), (.int .i64 va4), (.int .i64 va5)] 56 (0, 0)) := (l0.block _ (by omega)).trans x0
  have q0 : w1.heap[w.heap.size + 1]? = some (.cells #[(.slice none 0 0), (.int .i64 0), (.bool false), (.slice none 0 0), (.int .i64 0), (.int .i64 0)] 56 (0, 0)) := (l0.block _ (by omega)).trans y0
  have p0_0 : w1.cell? ⟨w.heap.size, 0, none⟩ = some (.slice va0 vl0 vk0) := cell_of_row _ _ 0 _ _ _ p0
  have q0_0 : w1.cell? ⟨w.heap.size + 1, 0, none⟩ = some (.slice none 0 0) := cell_of_row _ _ 0 _ _ _ q0
  have p0_1 : w1.cell? ⟨w.heap.size, 1, none⟩ = some (.int .i64 va1) := cell_of_row _ _ 1 _ _ _ p0
  have q0_1 : w1.cell? ⟨w.heap.size + 1, 1, none⟩ = some (.int .i64 0) := cell_of_row _ _ 1 _ _ _ q0
  have p0_2 : w1.cell? ⟨w.heap.size, 2, none⟩ = some (.bool va2) := cell_of_row _ _ 2 _ _ _ p0
  have q0_2 : w1.cell? ⟨w.heap.size + 1, 2, none⟩ = some (.bool false) := cell_of_row _ _ 2 _ _ _ q0
  have p0_3 : w1.cell? ⟨w.heap.size, 3, none⟩ = some (.slice va3 vl3 vk3) := cell_of_row _ _ 3 _ _ _ p0
  have q0_3 : w1.cell? ⟨w.heap.size + 1, 3, none⟩ = some (.slice none 0 0) := cell_of_row _ _ 3 _ _ _ q0
  have p0_4 : w1.cell? ⟨w.heap.size, 4, none⟩ = some (.int .i64 va4) := cell_of_row _ _ 4 _ _ _ p0
  have q0_4 : w1.cell? ⟨w.heap.size + 1, 4, none⟩ = some (.int .i64 0) := cell_of_row _ _ 4 _ _ _ q0
  have p0_5 : w1.cell? ⟨w.heap.size, 5, none⟩ = some (.int .i64 va5) := cell_of_row _ _ 5 _ _ _ p0
  have q0_5 : w1.cell? ⟨w.heap.size + 1, 5, none⟩ = some (.int .i64 0) := cell_of_row _ _ 5 _ _ _ q0
  have f0 : ∀ o, w1.frozen? ⟨w.heap.size, o, none⟩ = false := fun o => by simp [World.frozen?, p0]
  have f0' : ∀ o, w1.frozen? ⟨w.heap.size + 1, o, none⟩ = false := fun o => by simp [World.frozen?, q0]
  have g1 : Fr (fun k => k = w.heap.size ∨ k = w.heap.size + 1) w (w1.setCell ⟨w.heap.size, 0, none⟩ (.slice ua0 ul0 uk0)) := ((g0.trans' (Fr.of_below l0 (fun k => k = w.heap.size ∨ k = w.heap.size + 1)) (fun _ _ h => h)).setCell (p := ⟨w.heap.size, 0, none⟩) (fun _ => .inl rfl) (.slice ua0 ul0 uk0))
  have t0 : Fr (fun k => k = w.heap.size ∨ k = w.heap.size + 1) w1 (w1.setCell ⟨w.heap.size, 0, none⟩ (.slice ua0 ul0 uk0)) := ((Fr.refl (fun k => k = w.heap.size ∨ k = w.heap.size + 1) w1).setCell (p := ⟨w.heap.size, 0, none⟩) (fun _ => .inl rfl) (.slice ua0 ul0 uk0))
  have x1 : (w1.setCell ⟨w.heap.size, 0, none⟩ (.slice ua0 ul0 uk0)).heap[w.heap.size]? = some (.cells #[(.slice ua0 ul0 uk0), (.int .i64 va1), (.bool va2), (.slice va3 vl3 vk3), (.int .i64 va4), (.int .i64 va5)] 56 (0, 0)) := (heap_setCell_at (o := 0) (u := (.slice ua0 ul0 uk0)) p0)
  have y1 : (w1.setCell ⟨w.heap.size, 0, none⟩ (.slice ua0 ul0 uk0)).heap[w.heap.size + 1]? = some (.cells #[(.slice none 0 0), (.int .i64 0), (.bool false), (.slice none 0 0), (.int .i64 0), (.int .i64 0)] 56 (0, 0)) := by
    rw [Below.heap_setCell _ _ _ _ (by simp)]; exact q0
  have z0' : w.heap.size + 2 ≤ (w1.setCell ⟨w.heap.size, 0, none⟩ (.slice ua0 ul0 uk0)).heap.size := Nat.le_trans (Nat.le_trans z0 l0.size) t0.size
  go_wp2_with fail
  generalize hW1 : (w1.setCell ⟨w.heap.size, 0, none⟩ (.slice ua0 ul0 uk0)) = W1 at *
  clear hW1 p0_0 q0_0 p0_1 q0_1 p0_2 q0_2 p0_3 q0_3 p0_4 q0_4 p0_5 q0_5 f0 f0'
  refine (H63.out F W1 (.slice va3 vl3 vk3) c3 (by have := HN.out; omega) (by have := HL.out; omega) a3 (Rd.mono (rd_fr hF g1 hS) _ _ b3) (fun k hk => Nat.lt_of_lt_of_le (hF k hk) g1.size)).mono ?_
  rintro e1 w2 ⟨u3, d3, rfl, o1, l1⟩
  obtain ⟨ua3, ul3, uk3, rfl⟩ := o1.slf
  have z1 : w.heap.size + 2 ≤ W1.heap.size := by omega
  have p1 : w2.heap[w.heap.size]? = some (.cells #[(.slice ua0 ul0 uk0), (.int .i64 va1), (.bool va2), (.slice va3 vl3 vk3), (.int .i64 va4), (.int .i64 va5)] 56 (0, 0)) := (l1.block _ (by omega)).trans x1
  have q1 : w2.heap[w.heap.size + 1]? = some (.cells #[(.slice none 0 0), (.int .i64 0), (.bool false), (.slice none 0 0), (.int .i64 0), (.int .i64 0)] 56 (0, 0)) := (l1.block _ (by omega)).trans y1
  have p1_0 : w2.cell? ⟨w.heap.size, 0, none⟩ = some (.slice ua0 ul0 uk0) := cell_of_row _ _ 0 _ _ _ p1
  have q1_0 : w2.cell? ⟨w.heap.size + 1, 0, none⟩ = some (.slice none 0 0) := cell_of_row _ _ 0 _ _ _ q1
  have p1_1 : w2.cell? ⟨w.heap.size, 1, none⟩ = some (.int .i64 va1) := cell_of_row _ _ 1 _ _ _ p1
  have q1_1 : w2.cell? ⟨w.heap.size + 1, 1, none⟩ = some (.int .i64 0) := cell_of_row _ _ 1 _ _ _ q1
  have p1_2 : w2.cell? ⟨w.heap.size, 2, none⟩ = some (.bool va2) := cell_of_row _ _ 2 _ _ _ p1
  have q1_2 : w2.cell? ⟨w.heap.size + 1, 2, none⟩ = some (.bool false) := cell_of_row _ _ 2 _ _ _ q1
  have p1_3 : w2.cell? ⟨w.heap.size, 3, none⟩ = some (.slice va3 vl3 vk3) := cell_of_row _ _ 3 _ _ _ p1
  have q1_3 : w2.cell? ⟨w.heap.size + 1, 3, none⟩ = some (.slice none 0 0) := cell_of_row _ _ 3 _ _ _ q1
  have p1_4 : w2.cell? ⟨w.heap.size, 4, none⟩ = some (.int .i64 va4) := cell_of_row _ _ 4 _ _ _ p1
  have q1_4 : w2.cell? ⟨w.heap.size + 1, 4, none⟩ = some (.int .i64 0) := cell_of_row _ _ 4 _ _ _ q1
  have p1_5 : w2.cell? ⟨w.heap.size, 5, none⟩ = some (.int .i64 va5) := cell_of_row _ _ 5 _ _ _ p1
  have q1_5 : w2.cell? ⟨w.heap.size + 1, 5, none⟩ = some (.int .i64 0) := cell_of_row _ _ 5 _ _ _ q1
  have f1 : ∀ o, w2.frozen? ⟨w.heap.size, o, none⟩ = false := fun o => by simp [World.frozen?, p1]
  have f1' : ∀ o, w2.frozen? ⟨w.heap.size + 1, o, none⟩ = false := fun o => by simp [World.frozen?, q1]
  have g2 : Fr (fun k => k = w.heap.size ∨ k = w.heap.size + 1) w (w2.setCell ⟨w.heap.size, 3, none⟩ (.slice ua3 ul3 uk3)) := ((g1.trans' (Fr.of_below l1 (fun k => k = w.heap.size ∨ k = w.heap.size + 1)) (fun _ _ h => h)).setCell (p := ⟨w.heap.size, 3, none⟩) (fun _ => .inl rfl) (.slice ua3 ul3 uk3))
  have t1 : Fr (fun k => k = w.heap.size ∨ k = w.heap.size + 1) w2 (w2.setCell ⟨w.heap.size, 3, none⟩ (.slice ua3 ul3 uk3)) := ((Fr.refl (fun k => k = w.heap.size ∨ k = w.heap.size + 1) w2).setCell (p := ⟨w.heap.size, 3, none⟩) (fun _ => .inl rfl) (.slice ua3 ul3 uk3))
  have x2 : (w2.setCell ⟨w.heap.size, 3, none⟩ (.slice ua3 ul3 uk3)).heap[w.heap.size]? = some (.cells #[(.slice ua0 ul0 uk0), (.int .i64 va1), (.bool va2), (.slice ua3 ul3 uk3), (.int .i64 va4), (.int .i64 va5)] 56 (0, 0)) := (heap_setCell_at (o := 3) (u := (.slice ua3 ul3 uk3)) p1)
  have y2 : (w2.setCell ⟨w.heap.size, 3, none⟩ (.slice ua3 ul3 uk3)).heap[w.heap.size + 1]? = some (.cells #[(.slice none 0 0), (.int .i64 0), (.bool false), (.slice none 0 0), (.int .i64 0), (.int .i64 0)] 56 (0, 0)) := by
    rw [Below.heap_setCell _ _ _ _ (by simp)]; exact q1
  have z1' : w.heap.size + 2 ≤ (w2.setCell ⟨w.heap.size, 3, none⟩ (.slice ua3 ul3 uk3)).heap.size := Nat.le_trans (Nat.le_trans z1 l1.size) t1.size
  go_wp2
  have fin : Fr (fun k => k = w.heap.size ∨ k = w.heap.size + 1) (w2.setCell ⟨w.heap.size, 3, none⟩ (.slice ua3 ul3 uk3)) (((((((w2.setCell ⟨w.heap.size, 3, none⟩ (.slice ua3 ul3 uk3)).setCell ⟨w.heap.size + 1, 0, none⟩ (.slice ua0 ul0 uk0)).setCell ⟨w.heap.size + 1, 1, none⟩ (.int .i64 va1)).setCell ⟨w.heap.size + 1, 2, none⟩ (.bool va2)).setCell ⟨w.heap.size + 1, 3, none⟩ (.slice ua3 ul3 uk3)).setCell ⟨w.heap.size + 1, 4, none⟩ (.int .i64 va4)).setCell ⟨w.heap.size + 1, 5, none⟩ (.int .i64 va5)) := (((((((Fr.refl (fun k => k = w.heap.size ∨ k = w.heap.size + 1) (w2.setCell ⟨w.heap.size, 3, none⟩ (.slice ua3 ul3 uk3))).setCell (p := ⟨w.heap.size + 1, 0, none⟩) (fun _ => .inr rfl) (.slice ua0 ul0 uk0)).setCell (p := ⟨w.heap.size + 1, 1, none⟩) (fun _ => .inr rfl) (.int .i64 va1)).setCell (p := ⟨w.heap.size + 1, 2, none⟩) (fun _ => .inr rfl) (.bool va2)).setCell (p := ⟨w.heap.size + 1, 3, none⟩) (fun _ => .inr rfl) (.slice ua3 ul3 uk3)).setCell (p := ⟨w.heap.size + 1, 4, none⟩) (fun _ => .inr rfl) (.int .i64 va4)).setCell (p := ⟨w.heap.size + 1, 5, none⟩) (fun _ => .inr rfl) (.int .i64 va5))
  have yf : (((((((w2.setCell ⟨w.heap.size, 3, none⟩ (.slice ua3 ul3 uk3)).setCell ⟨w.heap.size + 1, 0, none⟩ (.slice ua0 ul0 uk0)).setCell ⟨w.heap.size + 1, 1, none⟩ (.int .i64 va1)).setCell ⟨w.heap.size + 1, 2, none⟩ (.bool va2)).setCell ⟨w.heap.size + 1, 3, none⟩ (.slice ua3 ul3 uk3)).setCell ⟨w.heap.size + 1, 4, none⟩ (.int .i64 va4)).setCell ⟨w.heap.size + 1, 5, none⟩ (.int .i64 va5)).heap[w.heap.size + 1]? = some (.cells #[(.slice ua0 ul0 uk0), (.int .i64 va1), (.bool va2), (.slice ua3 ul3 uk3), (.int .i64 va4), (.int .i64 va5)] 56 (0, 0)) := (heap_setCell_at (o := 5) (u := (.int .i64 va5)) (heap_setCell_at (o := 4) (u := (.int .i64 va4)) (heap_setCell_at (o := 3) (u := (.slice ua3 ul3 uk3)) (heap_setCell_at (o := 2) (u := (.bool va2)) (heap_setCell_at (o := 1) (u := (.int .i64 va1)) (heap_setCell_at (o := 0) (u := (.slice ua0 ul0 uk0)) y2))))))
  generalize (((((((w2.setCell ⟨w.heap.size, 3, none⟩ (.slice ua3 ul3 uk3)).setCell ⟨w.heap.size + 1, 0, none⟩ (.slice ua0 ul0 uk0)).setCell ⟨w.heap.size + 1, 1, none⟩ (.int .i64 va1)).setCell ⟨w.heap.size + 1, 2, none⟩ (.bool va2)).setCell ⟨w.heap.size + 1, 3, none⟩ (.slice ua3 ul3 uk3)).setCell ⟨w.heap.size + 1, 4, none⟩ (.int .i64 va4)).setCell ⟨w.heap.size + 1, 5, none⟩ (.int .i64 va5)) = WF at *
  have e0 : WF.cell? ⟨w.heap.size + 1, 0, none⟩ = some (.slice ua0 ul0 uk0) := cell_of_row _ _ 0 _ _ _ yf
  have e1 : WF.cell? ⟨w.heap.size + 1, 1, none⟩ = some (.int .i64 va1) := cell_of_row _ _ 1 _ _ _ yf
  have e2 : WF.cell? ⟨w.heap.size + 1, 2, none⟩ = some (.bool va2) := cell_of_row _ _ 2 _ _ _ yf
  have e3 : WF.cell? ⟨w.heap.size + 1, 3, none⟩ = some (.slice ua3 ul3 uk3) := cell_of_row _ _ 3 _ _ _ yf
  have e4 : WF.cell? ⟨w.heap.size + 1, 4, none⟩ = some (.int .i64 va4) := cell_of_row _ _ 4 _ _ _ yf
  have e5 : WF.cell? ⟨w.heap.size + 1, 5, none⟩ = some (.int .i64 va5) := cell_of_row _ _ 5 _ _ _ yf
  refine bodyPost_ret (v := .agg #[(.slice ua0 ul0 uk0), (.int .i64 va1), (.bool va2), (.slice ua3 ul3 uk3), (.int .i64 va4), (.int .i64 va5)]) (by simp [results, Tryz.results21, go_sem, e0, e1, e2, e3, e4, e5]) rfl ?_
  exact ⟨[(.slice ua0 ul0 uk0), (.int .i64 va1), (.bool va2), (.slice ua3 ul3 uk3), (.int .i64 va4), (.int .i64 va5)], [d0, c1, c2, d3, c4, c5], rfl, ⟨o0_0.keep (((t0.trans' (Fr.of_below l1 (fun k => k = w.heap.size ∨ k = w.heap.size + 1)) (fun _ _ h => h)).trans t1).trans fin) (fun k h1 h2 => by omega) (by omega), Owned.scalar rfl a1 b1, Owned.scalar rfl a2 b2, o1.keep (t1.trans fin) (fun k h1 h2 => by omega) (by omega), Owned.scalar rfl a4 b4, Owned.scalar rfl a5 b5, trivial⟩, (g2.trans fin).below (Nat.le_refl _) hS⟩
set_option maxRecDepth 100000 in
set_option maxHeartbeats 400000 in
theorem own_ownSharedComb_of (n : Nat) (h47 : OwnA Tryz.prog tab n 47 [.sl 132]) (h48 : OwnS Tryz.prog tab n 48 5) (h49 : OwnS Tryz.prog tab n 49 45) : OwnA Tryz.prog tab n 31 [.sl 132, .sl 5, .sl 45, .int .i64] := by
  intro F w vs cs hn hl ht0 hr0 hF
  obtain ⟨c0, cs0, rfl, a0, ht1⟩ := ht0.cons
  obtain ⟨v0, vs0, rfl, b0, hr1⟩ := hr0.cons
  obtain ⟨c1, cs1, rfl, a1, ht2⟩ := ht1.cons
  obtain ⟨v1, vs1, rfl, b1, hr2⟩ := hr1.cons
  obtain ⟨c2, cs2, rfl, a2, ht3⟩ := ht2.cons
  obtain ⟨v2, vs2, rfl, b2, hr3⟩ := hr2.cons
  obtain ⟨c3, cs3, rfl, a3, ht4⟩ := ht3.cons
  obtain ⟨v3, vs3, rfl, b3, hr4⟩ := hr3.cons
  obtain rfl := ht4.nil
  obtain rfl := hr4.nil
  obtain ⟨va0, vl0, vk0, rfl⟩ := Ht.slf a0 b0
  obtain ⟨va1, vl1, vk1, rfl⟩ := Ht.slf a1 b1
  obtain ⟨va2, vl2, vk2, rfl⟩ := Ht.slf a2 b2
  obtain ⟨va3, rfl⟩ := Ht.intf a3 b3
  simp only [nodesRow, Nat.add_zero] at hn hl
  have H47 := Lib.hid h47
  clear h47
  have H48 := Lib.hid h48
  clear h48
  have H49 := Lib.hid h49
  clear h49
  have HN := Lib.hid hn
  have HL := Lib.hid hl
  clear hn hl
  have hS : ∀ k, k < w.heap.size → ¬ (k = w.heap.size ∨ k = w.heap.size + 1) := fun k hk => by omega
  have g0 : Fr (fun k => k = w.heap.size ∨ k = w.heap.size + 1) w ((w.alloc (Obj.cells #[(.slice va0 vl0 vk0), (.slice va1 vl1 vk1), (.slice va2 vl2 vk2), (.int .i64 va3)] 69)).alloc (Obj.cells #[(.slice none 0 0), (.slice none 0 0), (.slice none 0 0), (.int .i64 0)] 69)) := ((Fr.refl _ _).alloc _).alloc _
  have s0 : ((w.alloc (Obj.cells #[(.slice va0 vl0 vk0), (.slice va1 vl1 vk1), (.slice va2 vl2 vk2), (.int .i64 va3)] 69)).alloc (Obj.cells #[(.slice none 0 0), (.slice none 0 0), (.slice none 0 0), (.int .i64 0)] 69)).heap.size = w.heap.size + 2 := by rw [alloc_size, alloc_size]
  have x0 : ((w.alloc (Obj.cells #[(.slice va0 vl0 vk0), (.slice va1 vl1 vk1), (.slice va2 vl2 vk2), (.int .i64 va3)] 69)).alloc (Obj.cells #[(.slice none 0 0), (.slice none 0 0), (.slice none 0 0), (.int .i64 0)] 69)).heap[w.heap.size]? = some (.cells #[(.slice va0 vl0 vk0), (.slice va1 vl1 vk1), (.slice va2 vl2 vk2), (.int .i64 va3)] 69 (0, 0)) := (Below.heap_alloc _ _ _ (by rw [alloc_size]; omega)).trans (heap_alloc_new w _)
  have y0 : ((w.alloc (Obj.cells #[(.slice va0 vl0 vk0), (.slice va1 vl1 vk1), (.slice va2 vl2 vk2), (.int .i64 va3)] 69)).alloc (Obj.cells #[(.slice none 0 0), (.slice none 0 0), (.slice none 0 0), (.int .i64 0)] 69)).heap[w.heap.size + 1]? = some (.cells #[(.slice none 0 0), (.slice none 0 0), (.slice none 0 0), (.int .i64 0)] 69 (0, 0)) := by
    have := heap_alloc_new (w.alloc (Obj.cells #[(.slice va0 vl0 vk0), (.slice va1 vl1 vk1), (.slice va2 vl2 vk2), (.int .i64 va3)] 69)) (Obj.cells #[(.slice none 0 0), (.slice none 0 0), (.slice none 0 0), (.int .i64 0)] 69); rwa [alloc_size] at this
  go_enter Tryz.func31, Tryz.ntmps31
  go_wp2_with fail
  generalize hW0 : (w.alloc (Obj.cells #[(.slice va0 vl0 vk0), (.slice va1 vl1 vk1), (.slice va2 vl2 vk2), (.int .i64 va3)] 69)).alloc (Obj.cells #[(.slice none 0 0), (.slice none 0 0), (.slice none 0 0), (.int .i64 0)] 69) = W0 at *
  clear hW0
  refine (H47.out F W0 [(.slice va0 vl0 vk0)] [c0] (by have := HN.out; simp only [nodesRow, Nat.add_zero]; omega) (by have := HL.out; simp only [nodesRow, Nat.add_zero]; omega) (by simp only [HtRow]; exact ⟨a0, trivial⟩) ⟨Rd.mono (rd_fr hF g0 hS) _ _ b0, trivial⟩ (fun k hk => Nat.lt_of_lt_of_le (hF k hk) g0.size)).mono ?_
  rintro e0 w1 ⟨vs0, ds0, rfl, o0, l0⟩
  have hlu0 := o0.len
  change vs0.length = 1 at hlu0
  obtain ⟨u0, ul0, rfl, hlu0_0⟩ := len_cons hlu0
  obtain rfl := len_nil hlu0_0
  obtain ⟨d0, ds0, rfl, o0_0, o0t0⟩ := o0.cons
  obtain rfl := o0t0.nil
  obtain ⟨ua0, ul0, uk0, rfl⟩ := o0_0.slf
  have z0 : w.heap.size + 2 ≤ W0.heap.size := by omega
  have p0 : w1.heap[w.heap.size]? = some (.cells #[(.slice va0 vl0 vk0), (.slice va1 vl1 vk1), (.slice va2 vl2 vk2), (.int .i64 va3)] 69 (0, 0)) := (l0.block _ (by omega)).trans x0
  have q0 : w1.heap[w.heap.size + 1]? = some (.cells #[(.slice none 0 0), (.slice none 0 0), (.slice none 0 0), (.int .i64 0)] 69 (0, 0)) := (l0.block _ (by omega)).trans y0
  have p0_0 : w1.cell? ⟨w.heap.size, 0, none⟩ = some (.slice va0 vl0 vk0) := cell_of_row _ _ 0 _ _ _ p0
  have q0_0 : w1.cell? ⟨w.heap.size + 1, 0, none⟩ = some (.slice none 0 0) := cell_of_row _ _ 0 _ _ _ q0
  have p0_1 : w1.cell? ⟨w.heap.size, 1, none⟩ = some (.slice va1 vl1 vk1) := cell_of_row _ _ 1 _ _ _ p0
  have q0_1 : w1.cell? ⟨w.heap.size + 1, 1, none⟩ = some (.slice none 0 0) := cell_of_row _ _ 1 _ _ _ q0
  have p0_2 : w1.cell? ⟨w.heap.size, 2, none⟩ = some (.slice va2 vl2 vk2) := cell_of_row _ _ 2 _ _ _ p0
  have q0_2 : w1.cell? ⟨w.heap.size + 1, 2, none⟩ = some (.slice none 0 0) := cell_of_row _ _ 2 _ _ _ q0
  have p0_3 : w1.cell? ⟨w.heap.size, 3, none⟩ = some (.int .i64 va3) := cell_of_row _ _ 3 _ _ _ p0
  have q0_3 : w1.cell? ⟨w.heap.size + 1, 3, none⟩ = some (.int .i64 0) := cell_of_row _ _ 3 _ _ _ q0
  have f0 : ∀ o, w1.frozen? ⟨w.heap.size, o, none⟩ = false := fun o => by simp [World.frozen?, p0]
  have f0' : ∀ o, w1.frozen? ⟨w.heap.size + 1, o, none⟩ = false := fun o => by simp [World.frozen?, q0]
  have g1 : Fr (fun k => k = w.heap.size ∨ k = w.heap.size + 1) w (w1.setCell ⟨w.heap.size, 0, none⟩ (.slice ua0 ul0 uk0)) := ((g0.trans' (Fr.of_below l0 (fun k => k = w.heap.size ∨ k = w.heap.size + 1)) (fun _ _ h => h)).setCell (p := ⟨w.heap.size, 0, none⟩) (fun _ => .inl rfl) (.slice ua0 ul0 uk0))
  have t0 : Fr (fun k => k = w.heap.size ∨ k = w.heap.size + 1) w1 (w1.setCell ⟨w.heap.size, 0, none⟩ (.slice ua0 ul0 uk0)) := ((Fr.refl (fun k => k = w.heap.size ∨ k = w.heap.size + 1) w1).setCell (p := ⟨w.heap.size, 0, none⟩) (fun _ => .inl rfl) (.slice ua0 ul0 uk0))
  have x1 : (w1.setCell ⟨w.heap.size, 0, none⟩ (.slice ua0 ul0 uk0)).heap[w.heap.size]? = some (.cells #[(.slice ua0 ul0 uk0), (.slice va1 vl1 vk1), (.slice va2 vl2 vk2), (.int .i64 va3)] 69 (0, 0)) := (heap_setCell_at (o := 0) (u := (.slice ua0 ul0 uk0)) p0)
  have y1 : (w1.setCell ⟨w.heap.size, 0, none⟩ (.slice ua0 ul0 uk0)).heap[w.heap.size + 1]? = some (.cells #[(.slice none 0 0), (.slice none 0 0), (.slice none 0 0), (.int .i64 0)] 69 (0, 0)) := by
    rw [Below.heap_setCell _ _ _ _ (by simp)]; exact q0
  have z0' : w.heap.size + 2 ≤ (w1.setCell ⟨w.heap.size, 0, none⟩ (.slice ua0 ul0 uk0)).heap.size := Nat.le_trans (Nat.le_trans z0 l0.size) t0.size
  go_wp2_with fail
  generalize hW1 : (w1.setCell ⟨w.heap.size, 0, none⟩ (.slice ua0 ul0 uk0)) = W1 at *
  clear hW1 p0_0 q0_0 p0_1 q0_1 p0_2 q0_2 p0_3 q0_3 f0 f0'
  refine (H48.out F W1 (.slice va1 vl1 vk1) c1 (by have := HN.out; omega) (by have := HL.out; omega) a1 (Rd.mono (rd_fr hF g1 hS) _ _ b1) (fun k hk => Nat.lt_of_lt_of_le (hF k hk) g1.size)).mono ?_
  rintro e1 w2 ⟨u1, d1, rfl, o1, l1⟩
  obtain ⟨ua1, ul1, uk1, rfl⟩ := o1.slf
  have z1 : w.heap.size + 2 ≤ W1.heap.size := by omega
  have p1 : w2.heap[w.heap.size]? = some (.cells #[(.slice ua0 ul0 uk0), (.slice va1 vl1 vk1), (.slice va2 vl2 vk2), (.int .i64 va3)] 69 (0, 0)) := (l1.block _ (by omega)).trans x1
  have q1 : w2.heap[w.heap.size + 1]? = some (.cells #[(.slice none 0 0), (.slice none 0 0), (.slice none 0 0), (.int .i64 0)] 69 (0, 0)) := (l1.block _ (by omega)).trans y1
  have p1_0 : w2.cell? ⟨w.heap.size, 0, none⟩ = some (.slice ua0 ul0 uk0) := cell_of_row _ _ 0 _ _ _ p1
  have q1_0 : w2.cell? ⟨w.heap.size + 1, 0, none⟩ = some (.slice none 0 0) := cell_of_row _ _ 0 _ _ _ q1
  have p1_1 : w2.cell? ⟨w.heap.size, 1, none⟩ = some (.slice va1 vl1 vk1) := cell_of_row _ _ 1 _ _ _ p1
  have q1_1 : w2.cell? ⟨w.heap.size + 1, 1, none⟩ = some (.slice none 0 0) := cell_of_row _ _ 1 _ _ _ q1
  have p1_2 : w2.cell? ⟨w.heap.size, 2, none⟩ = some (.slice va2 vl2 vk2) := cell_of_row _ _ 2 _ _ _ p1
  have q1_2 : w2.cell? ⟨w.heap.size + 1, 2, none⟩ = some (.slice none 0 0) := cell_of_row _ _ 2 _ _ _ q1
  have p1_3 : w2.cell? ⟨w.heap.size, 3, none⟩ = some (.int .i64 va3) := cell_of_row _ _ 3 _ _ _ p1
  have q1_3 : w2.cell? ⟨w.heap.size + 1, 3, none⟩ = some (.int .i64 0) := cell_of_row _ _ 3 _ _ _ q1
  have f1 : ∀ o, w2.frozen? ⟨w.heap.size, o, none⟩ = false := fun o => by simp [World.frozen?, p1]
  have f1' : ∀ o, w2.frozen? ⟨w.heap.size + 1, o, none⟩ = false := fun o => by simp [World.frozen?, q1]
  have g2 : Fr (fun k => k = w.heap.size ∨ k = w.heap.size + 1) w (w2.setCell ⟨w.heap.size, 1, none⟩ (.slice ua1 ul1 uk1)) := ((g1.trans' (Fr.of_below l1 (fun k => k = w.heap.size ∨ k = w.heap.size + 1)) (fun _ _ h => h)).setCell (p := ⟨w.heap.size, 1, none⟩) (fun _ => .inl rfl) (.slice ua1 ul1 uk1))
  have t1 : Fr (fun k => k = w.heap.size ∨ k = w.heap.size + 1) w2 (w2.setCell ⟨w.heap.size, 1, none⟩ (.slice ua1 ul1 uk1)) := ((Fr.refl (fun k => k = w.heap.size ∨ k = w.heap.size + 1) w2).setCell (p := ⟨w.heap.size, 1, none⟩) (fun _ => .inl rfl) (.slice ua1 ul1 uk1))
  have x2 : (w2.setCell ⟨w.heap.size, 1, none⟩ (.slice ua1 ul1 uk1)).heap[w.heap.size]? = some (.cells #[(.slice ua0 ul0 uk0), (.slice ua1 ul1 uk1), (.slice va2 vl2 vk2), (.int .i64 va3)] 69 (0, 0)) := (heap_setCell_at (o := 1) (u := (.slice ua1 ul1 uk1)) p1)
  have y2 : (w2.setCell ⟨w.heap.size, 1, none⟩ (.slice ua1 ul1 uk1)).heap[w.heap.size + 1]? = some (.cells #[(.slice none 0 0), (.slice none 0 0), (.slice none 0 0), (.int .i64 0)] 69 (0, 0)) := by
    rw [Below.heap_setCell _ _ _ _ (by simp)]; exact q1
  have z1' : w.heap.size + 2 ≤ (w2.setCell ⟨w.heap.size, 1, none⟩ (.slice ua1 ul1 uk1)).heap.size := Nat.le_trans (Nat.le_trans z1 l1.size) t1.size
  go_wp2_with fail
  generalize hW2 : (w2.setCell ⟨w.heap.size, 1, none⟩ (.slice ua1 ul1 uk1)) = W2 at *
  clear hW2 p1_0 q1_0 p1_1 q1_1 p1_2 q1_2 p1_3 q1_3 f1 f1'
  refine (H49.out F W2 (.slice va2 vl2 vk2) c2 (by have := HN.out; omega) (by have := HL.out; omega) a2 (Rd.mono (rd_fr hF g2 hS) _ _ b2) (fun k hk => Nat.lt_of_lt_of_le (hF k hk) g2.size)).mono ?_
  rintro e2 w3 ⟨u2, d2, rfl, o2, l2⟩
  obtain ⟨ua2, ul2, uk2, rfl⟩ := o2.slf
  have z2 : w.heap.size + 2 ≤ W2.heap.size := by omega
  have p2 : w3.heap[w.heap.size]? = some (.cells #[(.slice ua0 ul0 uk0), (.slice ua1 ul1 uk1), (.slice va2 vl2 vk2), (.int .i64 va3)] 69 (0, 0)) := (l2.block _ (by omega)).trans x2
  have q2 : w3.heap[w.heap.size + 1]? = some (.cells #[(.slice none 0 0), (.slice none 0 0), (.slice none 0 0), (.int .i64 0)] 69 (0, 0)) := (l2.block _ (by omega)).trans y2
  have p2_0 : w3.cell? ⟨w.heap.size, 0, none⟩ = some (.slice ua0 ul0 uk0) := cell_of_row _ _ 0 _ _ _ p2
  have q2_0 : w3.cell? ⟨w.heap.size + 1, 0, none⟩ = some (.slice none 0 0) := cell_of_row _ _ 0 _ _ _ q2
  have p2_1 : w3.cell? ⟨w.heap.size, 1, none⟩ = some (.slice ua1 ul1 uk1) := cell_of_row _ _ 1 _ _ _ p2
  have q2_1 : w3.cell? ⟨w.heap.size + 1, 1, none⟩ = some (.slice none 0 0) := cell_of_row _ _ 1 _ _ _ q2
  have p2_2 : w3.cell? ⟨w.heap.size, 2, none⟩ = some (.slice va2 vl2 vk2) := cell_of_row _ _ 2 _ _ _ p2
  have q2_2 : w3.cell? ⟨w.heap.size + 1, 2, none⟩ = some (.slice none 0 0) := cell_of_row _ _ 2 _ _ _ q2
  have p2_3 : w3.cell? ⟨w.heap.size, 3, none⟩ = some (.int .i64 va3) := cell_of_row _ _ 3 _ _ _ p2
  have q2_3 : w3.cell? ⟨w.heap.size + 1, 3, none⟩ = some (.int .i64 0) := cell_of_row _ _ 3 _ _ _ q2
  have f2 : ∀ o, w3.frozen? ⟨w.heap.size, o, none⟩ = false := fun o => by simp [World.frozen?, p2]
  have f2' : ∀ o, w3.frozen? ⟨w.heap.size + 1, o, none⟩ = false := fun o => by simp [World.frozen?, q2]
  have g3 : Fr (fun k => k = w.heap.size ∨ k = w.heap.size + 1) w (w3.setCell ⟨w.heap.size, 2, none⟩ (.slice ua2 ul2 uk2)) := ((g2.trans' (Fr.of_below l2 (fun k => k = w.heap.size ∨ k = w.heap.size + 1)) (fun _ _ h => h)).setCell (p := ⟨w.heap.size, 2, none⟩) (fun _ => .inl rfl) (.slice ua2 ul2 uk2))
  have t2 : Fr (fun k => k = w.heap.size ∨ k = w.heap.size + 1) w3 (w3.setCell ⟨w.heap.size, 2, none⟩ (.slice ua2 ul2 uk2)) := ((Fr.refl (fun k => k = w.heap.size ∨ k = w.heap.size + 1) w3).setCell (p := ⟨w.heap.size, 2, none⟩) (fun _ => .inl rfl) (.slice ua2 ul2 uk2))
  have x3 : (w3.setCell ⟨w.heap.size, 2, none⟩ (.slice ua2 ul2 uk2)).heap[w.heap.size]? = some (.cells #[(.slice ua0 ul0 uk0), (.slice ua1 ul1 uk1), (.slice ua2 ul2 uk2), (.int .i64 va3)] 69 (0, 0)) := (heap_setCell_at (o := 2) (u := (.slice ua2 ul2 uk2)) p2)
  have y3 : (w3.setCell ⟨w.heap.size, 2, none⟩ (.slice ua2 ul2 uk2)).heap[w.heap.size + 1]? = some (.cells #[(.slice none 0 0), (.slice none 0 0), (.slice none 0 0), (.int .i64 0)] 69 (0, 0)) := by
    rw [Below.heap_setCell _ _ _ _ (by simp)]; exact q2
  have z2' : w.heap.size + 2 ≤ (w3.setCell ⟨w.heap.size, 2, none⟩ (.slice ua2 ul2 uk2)).heap.size := Nat.le_trans (Nat.le_trans z2 l2.size) t2.size
  go_wp2
  have fin : Fr (fun k => k = w.heap.size ∨ k = w.heap.size + 1) (w3.setCell ⟨w.heap.size, 2, none⟩ (.slice ua2 ul2 uk2)) (((((w3.setCell ⟨w.heap.size, 2, none⟩ (.slice ua2 ul2 uk2)).setCell ⟨w.heap.size + 1, 0, none⟩ (.slice ua0 ul0 uk0)).setCell ⟨w.heap.size + 1, 1, none⟩ (.slice ua1 ul1 uk1)).setCell ⟨w.heap.size + 1, 2, none⟩ (.slice ua2 ul2 uk2)).setCell ⟨w.heap.size + 1, 3, none⟩ (.int .i64 va3)) := (((((Fr.refl (fun k => k = w.heap.size ∨ k = w.heap.size + 1) (w3.setCell ⟨w.heap.size, 2, none⟩ (.slice ua2 ul2 uk2))).setCell (p := ⟨w.heap.size + 1, 0, none⟩) (fun _ => .inr rfl) (.slice ua0 ul0 uk0)).setCell (p := ⟨w.heap.size + 1, 1, none⟩) (fun _ => .inr rfl) (.slice ua1 ul1 uk1)).setCell (p := ⟨w.heap.size + 1, 2, none⟩) (fun _ => .inr rfl) (.slice ua2 ul2 uk2)).setCell (p := ⟨w.heap.size + 1, 3, none⟩) (fun _ => .inr rfl) (.int .i64 va3))
  have yf : (((((w3.setCell ⟨w.heap.size, 2, none⟩ (.slice ua2 ul2 uk2)).setCell ⟨w.heap.size + 1, 0, none⟩ (.slice ua0 ul0 uk0)).setCell ⟨w.heap.size + 1, 1, none⟩ (.slice ua1 ul1 uk1)).setCell ⟨w.heap.size + 1, 2, none⟩ (.slice ua2 ul2 uk2)).setCell ⟨w.heap.size + 1, 3, none⟩ (.int .i64 va3)).heap[w.heap.size + 1]? = some (.cells #[(.slice ua0 ul0 uk0), (.slice ua1 ul1 uk1), (.slice ua2 ul2 uk2), (.int .i64 va3)] 69 (0, 0)) := (heap_setCell_at (o := 3) (u := (.int .i64 va3)) (heap_setCell_at (o := 2) (u := (.slice ua2 ul2 uk2)) (heap_setCell_at (o := 1) (u := (.slice ua1 ul1 uk1)) (heap_setCell_at (o := 0) (u := (.slice ua0 ul0 uk0)) y3))))
  generalize (((((w3.setCell ⟨w.heap.size, 2, none⟩ (.slice ua2 ul2 uk2)).setCell ⟨w.heap.size + 1, 0, none⟩ (.slice ua0 ul0 uk0)).setCell ⟨w.heap.size + 1, 1, none⟩ (.slice ua1 ul1 uk1)).setCell ⟨w.heap.size + 1, 2, none⟩ (.slice ua2 ul2 uk2)).setCell ⟨w.heap.size + 1, 3, none⟩ (.int .i64 va3)) = WF at *
  have e0 : WF.cell? ⟨w.heap.size + 1, 0, none⟩ = some (.slice ua0 ul0 uk0) := cell_of_row _ _ 0 _ _ _ yf
  have e1 : WF.cell? ⟨w.heap.size + 1, 1, none⟩ = some (.slice ua1 ul1 uk1) := cell_of_row _ _ 1 _ _ _ yf
  have e2 : WF.cell? ⟨w.heap.size + 1, 2, none⟩ = some (.slice ua2 ul2 uk2) := cell_of_row _ _ 2 _ _ _ yf
  have e3 : WF.cell? ⟨w.heap.size + 1, 3, none⟩ = some (.int .i64 va3) := cell_of_row _ _ 3 _ _ _ yf
  refine bodyPost_ret (v := .agg #[(.slice ua0 ul0 uk0), (.slice ua1 ul1 uk1), (.slice ua2 ul2 uk2), (.int .i64 va3)]) (by simp [results, Tryz.results31, go_sem, e0, e1, e2, e3]) rfl ?_
  exact ⟨[(.slice ua0 ul0 uk0), (.slice ua1 ul1 uk1), (.slice ua2 ul2 uk2), (.int .i64 va3)], [d0, d1, d2, c3], rfl, ⟨o0_0.keep (((t0.trans' (Fr.of_below l1 (fun k => k = w.heap.size ∨ k = w.heap.size + 1)) (fun _ _ h => h)).trans ((t1.trans' (Fr.of_below l2 (fun k => k = w.heap.size ∨ k = w.heap.size + 1)) (fun _ _ h => h)).trans t2)).trans fin) (fun k h1 h2 => by omega) (by omega), o1.keep (((t1.trans' (Fr.of_below l2 (fun k => k = w.heap.size ∨ k = w.heap.size + 1)) (fun _ _ h => h)).trans t2).trans fin) (fun k h1 h2 => by omega) (by omega), o2.keep (t2.trans fin) (fun k h1 h2 => by omega) (by omega), Owned.scalar rfl a3 b3, trivial⟩, (g3.trans fin).below (Nat.le_refl _) hS⟩
set_option maxRecDepth 100000 in
set_option maxHeartbeats 400000 in
theorem own_ownTree_of (n : Nat) (h76 : OwnS Tryz.prog tab n 76 132) : OwnA Tryz.prog tab n 47 [.sl 132] := by
  intro F w vs cs hn hl ht0 hr0 hF
  obtain ⟨c0, cs0, rfl, a0, ht1⟩ := ht0.cons
  obtain ⟨v0, vs0, rfl, b0, hr1⟩ := hr0.cons
  obtain rfl := ht1.nil
  obtain rfl := hr1.nil
  obtain ⟨va0, vl0, vk0, rfl⟩ := Ht.slf a0 b0
  simp only [nodesRow, Nat.add_zero] at hn hl
  have H76 := Lib.hid h76
  clear h76
  have HN := Lib.hid hn
  have HL := Lib.hid hl
  clear hn hl
  have hS : ∀ k, k < w.heap.size → ¬ (k = w.heap.size ∨ k = w.heap.size + 1) := fun k hk => by omega
  have g0 : Fr (fun k => k = w.heap.size ∨ k = w.heap.size + 1) w ((w.alloc (Obj.cells #[(.slice va0 vl0 vk0)] 24)).alloc (Obj.cells #[(.slice none 0 0)] 24)) := ((Fr.refl _ _).alloc _).alloc _
  have s0 : ((w.alloc (Obj.cells #[(.slice va0 vl0 vk0)] 24)).alloc (Obj.cells #[(.slice none 0 0)] 24)).heap.size = w.heap.size + 2 := by rw [alloc_size, alloc_size]
  have x0 : ((w.alloc (Obj.cells #[(.slice va0 vl0 vk0)] 24)).alloc (Obj.cells #[(.slice none 0 0)] 24)).heap[w.heap.size]? = some (.cells #[(.slice va0 vl0 vk0)] 24 (0, 0)) := (Below.heap_alloc _ _ _ (by rw [alloc_size]; omega)).trans (heap_alloc_new w _)
  have y0 : ((w.alloc (Obj.cells #[(.slice va0 vl0 vk0)] 24)).alloc (Obj.cells #[(.slice none 0 0)] 24)).heap[w.heap.size + 1]? = some (.cells #[(.slice none 0 0)] 24 (0, 0)) := by
    have := heap_alloc_new (w.alloc (Obj.cells #[(.slice va0 vl0 vk0)] 24)) (Obj.cells #[(.slice none 0 0)] 24); rwa [alloc_size] at this
  go_enter Tryz.func47, Tryz.ntmps47
  go_wp2_with fail
  generalize hW0 : (w.alloc (Obj.cells #[(.slice va0 vl0 vk0)] 24)).alloc (Obj.cells #[(.slice none 0 0)] 24) = W0 at *
  clear hW0
  refine (H76.out F W0 (.slice va0 vl0 vk0) c0 (by have := HN.out; omega) (by have := HL.out; omega) a0 (Rd.mono (rd_fr hF g0 hS) _ _ b0) (fun k hk => Nat.lt_of_lt_of_le (hF k hk) g0.size)).mono ?_
  rintro e0 w1 ⟨u0, d0, rfl, o0, l0⟩
  obtain ⟨ua0, ul0, uk0, rfl⟩ := o0.slf
  have z0 : w.heap.size + 2 ≤ W0.heap.size := by omega
  have p0 : w1.heap[w.heap.size]? = some (.cells #[(.slice va0 vl0 vk0)] 24 (0, 0)) := (l0.block _ (by omega)).trans x0
  have q0 : w1.heap[w.heap.size + 1]? = some (.cells #[(.slice none 0 0)] 24 (0, 0)) := (l0.block _ (by omega)).trans y0
  have p0_0 : w1.cell? ⟨w.heap.size, 0, none⟩ = some (.slice va0 vl0 vk0) := cell_of_row _ _ 0 _ _ _ p0
  have q0_0 : w1.cell? ⟨w.heap.size + 1, 0, none⟩ = some (.slice none 0 0) := cell_of_row _ _ 0 _ _ _ q0
  have f0 : ∀ o, w1.frozen? ⟨w.heap.size, o, none⟩ = false := fun o => by simp [World.frozen?, p0]
  have f0' : ∀ o, w1.frozen? ⟨w.heap.size + 1, o, none⟩ = false := fun o => by simp [World.frozen?, q0]
  have g1 : Fr (fun k => k = w.heap.size ∨ k = w.heap.size + 1) w (w1.setCell ⟨w.heap.size, 0, none⟩ (.slice ua0 ul0 uk0)) := ((g0.trans' (Fr.of_below l0 (fun k => k = w.heap.size ∨ k = w.heap.size + 1)) (fun _ _ h => h)).setCell (p := ⟨w.heap.size, 0, none⟩) (fun _ => .inl rfl) (.slice ua0 ul0 uk0))
  have t0 : Fr (fun k => k = w.heap.size ∨ k = w.heap.size + 1) w1 (w1.setCell ⟨w.heap.size, 0, none⟩ (.slice ua0 ul0 uk0)) := ((Fr.refl (fun k => k = w.heap.size ∨ k = w.heap.size + 1) w1).setCell (p := ⟨w.heap.size, 0, none⟩) (fun _ => .inl rfl) (.slice ua0 ul0 uk0))
  have x1 : (w1.setCell ⟨w.heap.size, 0, none⟩ (.slice ua0 ul0 uk0)).heap[w.heap.size]? = some (.cells #[(.slice ua0 ul0 uk0)] 24 (0, 0)) := (heap_setCell_at (o := 0) (u := (.slice ua0 ul0 uk0)) p0)
  have y1 : (w1.setCell ⟨w.heap.size, 0, none⟩ (.slice ua0 ul0 uk0)).heap[w.heap.size + 1]? = some (.cells #[(.slice none 0 0)] 24 (0, 0)) := by
    rw [Below.heap_setCell _ _ _ _ (by simp)]; exact q0
  have z0' : w.heap.size + 2 ≤ (w1.setCell ⟨w.heap.size, 0, none⟩ (.slice ua0 ul0 uk0)).heap.size := Nat.le_trans (Nat.le_trans z0 l0.size) t0.size
  go_wp2
  have fin : Fr (fun k => k = w.heap.size ∨ k = w.heap.size + 1) (w1.setCell ⟨w.heap.size, 0, none⟩ (.slice ua0 ul0 uk0)) ((w1.setCell ⟨w.heap.size, 0, none⟩ (.slice ua0 ul0 uk0)).setCell ⟨w.heap.size + 1, 0, none⟩ (.slice ua0 ul0 uk0)) := ((Fr.refl (fun k => k = w.heap.size ∨ k = w.heap.size + 1) (w1.setCell ⟨w.heap.size, 0, none⟩ (.slice ua0 ul0 uk0))).setCell (p := ⟨w.heap.size + 1, 0, none⟩) (fun _ => .inr rfl) (.slice ua0 ul0 uk0))
  have yf : ((w1.setCell ⟨w.heap.size, 0, none⟩ (.slice ua0 ul0 uk0)).setCell ⟨w.heap.size + 1, 0, none⟩ (.slice ua0 ul0 uk0)).heap[w.heap.size + 1]? = some (.cells #[(.slice ua0 ul0 uk0)] 24 (0, 0)) := (heap_setCell_at (o := 0) (u := (.slice ua0 ul0 uk0)) y1)
  generalize ((w1.setCell ⟨w.heap.size, 0, none⟩ (.slice ua0 ul0 uk0)).setCell ⟨w.heap.size + 1, 0, none⟩ (.slice ua0 ul0 uk0)) = WF at *
  have e0 : WF.cell? ⟨w.heap.size + 1, 0, none⟩ = some (.slice ua0 ul0 uk0) := cell_of_row _ _ 0 _ _ _ yf
  refine bodyPost_ret (v := .agg #[(.slice ua0 ul0 uk0)]) (by simp [results, Tryz.results47, go_sem, e0]) rfl ?_
  exact ⟨[(.slice ua0 ul0 uk0)], [d0], rfl, ⟨o0.keep (t0.trans fin) (fun k h1 h2 => by omega) (by omega), trivial⟩, (g1.trans fin).below (Nat.le_refl _) hS⟩
set_option maxRecDepth 100000 in
set_option maxHeartbeats 400000 in
theorem own_ownBoolses_of (n : Nat) (h1 : OwnS Tryz.prog tab n 63 4) : OwnS Tryz.prog tab (n + 1) 49 45 := by
  intro F w v c hn hl ht hr hF
  obtain ⟨sz, len, cap, rows, rfl⟩ := ht_sl ht
  obtain ⟨e0, he0, hsz, hht⟩ : ∃ e, CT.sl 45 = .sl e ∧ sz = (tab e).length ∧ HtRows tab (tab e) rows := by simpa only [Ht] using ht
  injection he0 with he0
  subst he0
  have hsz' : sz = 1 := hsz
  clear hsz
  subst hsz'
  obtain ⟨a, rfl, h2, h3⟩ : ∃ a, v = .slice a len cap ∧ len ≤ rows.length ∧ rows.length ≤ cap := by simp only [Rd] at hr; obtain ⟨a, h1, h2, h3, _⟩ := hr; exact ⟨a, h1, h2, h3⟩
  have hnd := nodesRows_len rows
  simp only [nodes] at hn hl
  have hc := copied_77 F w (.slice a len cap) len cap rows hr hht (by simp only [limL] at hl; omega) hF
  have hlb : len ≤ 68719476736 := by simp only [limL] at hl; omega
  have HC := Lib.hid hc
  have H1 := Lib.hid h1
  have HT := Lib.hid hht
  have HL := Lib.hid hl
  have HN := Lib.hid hn
  clear hc h1 hht hl hn
  go_enter Tryz.func49, Tryz.ntmps49
  go_wp2_with fail
  refine HC.out.mono ?_
  rintro e w1 ⟨g, rfl, hcp⟩
  have hst := OwnAt.start hcp
  clear hcp
  go_wp2
  go_loopw [3, 6, 7, 8, 9, 10, 11, 12, 13, 14, 15, 16, 17, 18, 19] (fun x3 x6 x7 x8 x9 x10 x11 x12 x13 x14 x15 x16 x17 x18 x19 wr => ∃ i : Nat, i ≤ len ∧ x3 = .int .i64 i ∧ OwnAt tab 45 1 len rows F w g i wr) (fun x3 x6 x7 x8 x9 x10 x11 x12 x13 x14 x15 x16 x17 x18 x19 _ => len - (intOf x3).toNat)
  case atStart => exact ⟨0, Nat.zero_le _, rfl, hst⟩
  case round =>
    obtain ⟨i, hi, rfl, hA⟩ := hrel
    by_cases hlt : i < len
    · obtain ⟨r, vs, hr1, hr2, hr3, hr4, hr5⟩ := hA.row h2 hlt HT.out
      have hlv : vs.length = 1 := (RdVals.length _ _ hr3).trans (HtRow.length _ _ hr2)
      obtain ⟨v0, vl0, rfl, hlv_0⟩ := len_cons hlv
      obtain rfl := len_nil hlv_0
      have q0 : wr.cell? ⟨g, i, none⟩ = some v0 := by have := hr4 0 v0 rfl; simpa only [Nat.mul_one, Nat.add_zero] using this
      have hgl : g < wr.heap.size := World.block_lt_of_cell? wr _ q0
      have hfz : ∀ o, wr.frozen? ⟨g, o, none⟩ = false := fun o => by obtain ⟨c, hb, _⟩ := hA.blk; simp [World.frozen?, hb]
      have hFr : ∀ k, F k → k < wr.heap.size := fun k hk => Nat.lt_of_lt_of_le (hF k hk) hA.bel.size
      obtain ⟨cc, cs0, rfl, hr2a, hr2b⟩ := hr2.cons
      obtain rfl := hr2b.nil
      simp only [nodesRow, Nat.add_zero] at hr5
      have hc2 := H1.out F wr v0 cc (by have := HN.out; omega) (by have := HL.out; omega) hr2a hr3.1 hFr
      have HC2 := Lib.hid hc2
      clear hc2
      have HFZ := Lib.hid hfz
      clear hfz
      go_wp2_with fail
      refine HC2.out.mono ?_
      rintro e w2 ⟨u0, c', rfl, ho1, hb⟩
      obtain ⟨ua0, ul0, uk0, rfl⟩ := ho1.slf
      have ho : OwnedRow tab (tab 45) [cc] [c'] [(.slice ua0 ul0 uk0)] wr.heap.size w2 := ⟨ho1, trivial⟩
      have r0 : w2.cell? ⟨g, i, none⟩ = some v0 := (hb.cell (p := ⟨g, i, none⟩) hgl).trans q0
      have f0 : w2.frozen? ⟨g, i, none⟩ = false := (hb.frozen (p := ⟨g, i, none⟩) hgl).trans (HFZ.out _)
      have hnx := hA.next (by rfl) h2 hlt hr1 hF ho hb
      go_wp2
      go_roundw
      case rel => exact ⟨i + 1, by omega, by go_num, by rw [Nat.mul_one] at hnx; exact hnx⟩
      case measure => simp [intOf]; omega
    · obtain rfl : i = len := by omega
      obtain ⟨c', hcd⟩ := hA.done (cap := cap) (by rfl) (by decide) h2
      have hbel := hA.bel
      go_wp2
      go_ret
      exact ⟨_, c', rfl, hcd, hbel⟩
set_option maxRecDepth 100000 in
set_option maxHeartbeats 400000 in
theorem own_ownNodes_of (n : Nat) (h1 : OwnA Tryz.prog tab n 104 [.str, .sl 201, .int .i64, .sl 3]) : OwnS Tryz.prog tab (n + 1) 76 132 := by
  intro F w v c hn hl ht hr hF
  obtain ⟨sz, len, cap, rows, rfl⟩ := ht_sl ht
  obtain ⟨e0, he0, hsz, hht⟩ : ∃ e, CT.sl 132 = .sl e ∧ sz = (tab e).length ∧ HtRows tab (tab e) rows := by simpa only [Ht] using ht
  injection he0 with he0
  subst he0
  have hsz' : sz = 4 := hsz
  clear hsz
  subst hsz'
  obtain ⟨a, rfl, h2, h3⟩ : ∃ a, v = .slice a len cap ∧ len ≤ rows.length ∧ rows.length ≤ cap := by simp only [Rd] at hr; obtain ⟨a, h1, h2, h3, _⟩ := hr; exact ⟨a, h1, h2, h3⟩
  have hnd := nodesRows_len rows
  simp only [nodes] at hn hl
  have hc := copied_103 F w (.slice a len cap) len cap rows hr hht (by simp only [limL] at hl; omega) hF
  have hlb : len ≤ 68719476736 := by simp only [limL] at hl; omega
  have HC := Lib.hid hc
  have H1 := Lib.hid h1
  have HT := Lib.hid hht
  have HL := Lib.hid hl
  have HN := Lib.hid hn
  clear hc h1 hht hl hn
  go_enter Tryz.func76, Tryz.ntmps76
  go_wp2_with fail
  refine HC.out.mono ?_
  rintro e w1 ⟨g, rfl, hcp⟩
  have hst := OwnAt.start hcp
  clear hcp
  go_wp2
  go_loopw [3, 6, 7, 8, 9, 10, 11, 12, 13, 14, 15, 16, 17, 18, 19] (fun x3 x6 x7 x8 x9 x10 x11 x12 x13 x14 x15 x16 x17 x18 x19 wr => ∃ i : Nat, i ≤ len ∧ x3 = .int .i64 i ∧ OwnAt tab 132 4 len rows F w g i wr) (fun x3 x6 x7 x8 x9 x10 x11 x12 x13 x14 x15 x16 x17 x18 x19 _ => len - (intOf x3).toNat)
  case atStart => exact ⟨0, Nat.zero_le _, rfl, hst⟩
  case round =>
    obtain ⟨i, hi, rfl, hA⟩ := hrel
    by_cases hlt : i < len
    · obtain ⟨r, vs, hr1, hr2, hr3, hr4, hr5⟩ := hA.row h2 hlt HT.out
      have hlv : vs.length = 4 := (RdVals.length _ _ hr3).trans (HtRow.length _ _ hr2)
      obtain ⟨v0, vl0, rfl, hlv_0⟩ := len_cons hlv
      obtain ⟨v1, vl1, rfl, hlv_1⟩ := len_cons hlv_0
      obtain ⟨v2, vl2, rfl, hlv_2⟩ := len_cons hlv_1
      obtain ⟨v3, vl3, rfl, hlv_3⟩ := len_cons hlv_2
      obtain rfl := len_nil hlv_3
      have q0 : wr.cell? ⟨g, i * 4, none⟩ = some v0 := by have := hr4 0 v0 rfl; simpa only [Nat.mul_one, Nat.add_zero] using this
      have q1 : wr.cell? ⟨g, i * 4 + 1, none⟩ = some v1 := by have := hr4 1 v1 rfl; simpa only [Nat.mul_one, Nat.add_zero] using this
      have q2 : wr.cell? ⟨g, i * 4 + 2, none⟩ = some v2 := by have := hr4 2 v2 rfl; simpa only [Nat.mul_one, Nat.add_zero] using this
      have q3 : wr.cell? ⟨g, i * 4 + 3, none⟩ = some v3 := by have := hr4 3 v3 rfl; simpa only [Nat.mul_one, Nat.add_zero] using this
      have hgl : g < wr.heap.size := World.block_lt_of_cell? wr _ q0
      have hfz : ∀ o, wr.frozen? ⟨g, o, none⟩ = false := fun o => by obtain ⟨c, hb, _⟩ := hA.blk; simp [World.frozen?, hb]
      have hFr : ∀ k, F k → k < wr.heap.size := fun k hk => Nat.lt_of_lt_of_le (hF k hk) hA.bel.size
      have hc2 := H1.out F wr [v0, v1, v2, v3] r (by have := HN.out; omega) (by have := HL.out; omega) hr2 hr3 hFr
      have HC2 := Lib.hid hc2
      clear hc2
      have HFZ := Lib.hid hfz
      clear hfz
      go_wp2_with fail
      refine HC2.out.mono ?_
      rintro e w2 ⟨vs', cs', rfl, ho, hb⟩
      have hlu := ho.len
      change vs'.length = 4 at hlu
      obtain ⟨u0, ul0, rfl, hlu_0⟩ := len_cons hlu
      obtain ⟨u1, ul1, rfl, hlu_1⟩ := len_cons hlu_0
      obtain ⟨u2, ul2, rfl, hlu_2⟩ := len_cons hlu_1
      obtain ⟨u3, ul3, rfl, hlu_3⟩ := len_cons hlu_2
      obtain rfl := len_nil hlu_3
      obtain ⟨cc0, ccs0, d0, ds0, rfl, rfl, ho_0, hot0⟩ := ho.cons2
      obtain ⟨cc1, ccs1, d1, ds1, rfl, rfl, ho_1, hot1⟩ := hot0.cons2
      obtain ⟨cc2, ccs2, d2, ds2, rfl, rfl, ho_2, hot2⟩ := hot1.cons2
      obtain ⟨cc3, ccs3, d3, ds3, rfl, rfl, ho_3, hot3⟩ := hot2.cons2
      obtain ⟨ua0, rfl⟩ := ho_0.strf
      obtain ⟨ua1, ul1, uk1, rfl⟩ := ho_1.slf
      obtain ⟨ua2, rfl⟩ := ho_2.intf
      obtain ⟨ua3, ul3, uk3, rfl⟩ := ho_3.slf
      have r0 : w2.cell? ⟨g, i * 4, none⟩ = some v0 := (hb.cell (p := ⟨g, i * 4, none⟩) hgl).trans q0
      have f0 : w2.frozen? ⟨g, i * 4, none⟩ = false := (hb.frozen (p := ⟨g, i * 4, none⟩) hgl).trans (HFZ.out _)
      have r1 : w2.cell? ⟨g, i * 4 + 1, none⟩ = some v1 := (hb.cell (p := ⟨g, i * 4 + 1, none⟩) hgl).trans q1
      have f1 : w2.frozen? ⟨g, i * 4 + 1, none⟩ = false := (hb.frozen (p := ⟨g, i * 4 + 1, none⟩) hgl).trans (HFZ.out _)
      have r2 : w2.cell? ⟨g, i * 4 + 2, none⟩ = some v2 := (hb.cell (p := ⟨g, i * 4 + 2, none⟩) hgl).trans q2
      have f2 : w2.frozen? ⟨g, i * 4 + 2, none⟩ = false := (hb.frozen (p := ⟨g, i * 4 + 2, none⟩) hgl).trans (HFZ.out _)
      have r3 : w2.cell? ⟨g, i * 4 + 3, none⟩ = some v3 := (hb.cell (p := ⟨g, i * 4 + 3, none⟩) hgl).trans q3
      have f3 : w2.frozen? ⟨g, i * 4 + 3, none⟩ = false := (hb.frozen (p := ⟨g, i * 4 + 3, none⟩) hgl).trans (HFZ.out _)
      have hnx := hA.next (by rfl) h2 hlt hr1 hF ho hb
      go_wp2
      go_roundw
      case rel => exact ⟨i + 1, by omega, by go_num, hnx⟩
      case measure => simp [intOf]; omega
    · obtain rfl : i = len := by omega
      obtain ⟨c', hcd⟩ := hA.done (cap := cap) (by rfl) (by decide) h2
      have hbel := hA.bel
      go_wp2
      go_ret
      exact ⟨_, c', rfl, hcd, hbel⟩
set_option maxRecDepth 100000 in
set_option maxHeartbeats 400000 in
theorem own_ownNode_of (n : Nat) (h138 : OwnS Tryz.prog tab n 138 201) (h139 : OwnS Tryz.prog tab n 139 3) : OwnA Tryz.prog tab n 104 [.str, .sl 201, .int .i64, .sl 3] := by
  intro F w vs cs hn hl ht0 hr0 hF
  obtain ⟨c0, cs0, rfl, a0, ht1⟩ := ht0.cons
  obtain ⟨v0, vs0, rfl, b0, hr1⟩ := hr0.cons
  obtain ⟨c1, cs1, rfl, a1, ht2⟩ := ht1.cons
  obtain ⟨v1, vs1, rfl, b1, hr2⟩ := hr1.cons
  obtain ⟨c2, cs2, rfl, a2, ht3⟩ := ht2.cons
  obtain ⟨v2, vs2, rfl, b2, hr3⟩ := hr2.cons
  obtain ⟨c3, cs3, rfl, a3, ht4⟩ := ht3.cons
  obtain ⟨v3, vs3, rfl, b3, hr4⟩ := hr3.cons
  obtain rfl := ht4.nil
  obtain rfl := hr4.nil
  obtain ⟨va0, rfl⟩ := Ht.strf a0 b0
  obtain ⟨va1, vl1, vk1, rfl⟩ := Ht.slf a1 b1
  obtain ⟨va2, rfl⟩ := Ht.intf a2 b2
  obtain ⟨va3, vl3, vk3, rfl⟩ := Ht.slf a3 b3
  simp only [nodesRow, Nat.add_zero] at hn hl
  have H138 := Lib.hid h138
  clear h138
  have H139 := Lib.hid h139
  clear h139
  have HN := Lib.hid hn
  have HL := Lib.hid hl
  clear hn hl
  have hS : ∀ k, k < w.heap.size → ¬ (k = w.heap.size ∨ k = w.heap.size + 1) := fun k hk => by omega
  have g0 : Fr (fun k => k = w.heap.size ∨ k = w.heap.size + 1) w ((w.alloc (Obj.cells #[(.string va0), (.slice va1 vl1 vk1), (.int .i64 va2), (.slice va3 vl3 vk3)] 132)).alloc (Obj.cells #[(.string { data := #[] }), (.slice none 0 0), (.int .i64 0), (.slice none 0 0)] 132)) := ((Fr.refl _ _).alloc _).alloc _
  have s0 : ((w.alloc (Obj.cells #[(.string va0), (.slice va1 vl1 vk1), (.int .i64 va2), (.slice va3 vl3 vk3)] 132)).alloc (Obj.cells #[(.string { data := #[] }), (.slice none 0 0), (.int .i64 0), (.slice none 0 0)] 132)).heap.size = w.heap.size + 2 := by rw [alloc_size, alloc_size]
  have x0 : ((w.alloc (Obj.cells #[(.string va0), (.slice va1 vl1 vk1), (.int .i64 va2), (.slice va3 vl3 vk3)] 132)).alloc (Obj.cells #[(.string { data := #[] }), (.slice none 0 0), (.int .i64 0), (.slice none 0 0)] 132)).heap[w.heap.size]? = some (.cells #[(.string va0), (.slice va1 vl1 vk1), (.int .i64 va2), (.slice va3 vl3 vk3)] 132 (0, 0)) := (Below.heap_alloc _ _ _ (by rw [alloc_size]; omega)).trans (heap_alloc_new w _)
  have y0 : ((w.alloc (Obj.cells #[(.string va0), (.slice va1 vl1 vk1), (.int .i64 va2), (.slice va3 vl3 vk3)] 132)).alloc (Obj.cells #[(.string { data := #[] }), (.slice none 0 0), (.int .i64 0), (.slice none 0 0)] 132)).heap[w.heap.size + 1]? = some (.cells #[(.string { data := #[] }), (.slice none 0 0), (.int .i64 0), (.slice none 0 0)] 132 (0, 0)) := by
    have := heap_alloc_new (w.alloc (Obj.cells #[(.string va0), (.slice va1 vl1 vk1), (.int .i64 va2), (.slice va3 vl3 vk3)] 132)) (Obj.cells #[(.string { data := #[] }), (.slice none 0 0), (.int .i64 0), (.slice none 0 0)] 132); rwa [alloc_size] at this
  go_enter Tryz.func104, Tryz.ntmps104
  go_wp2_with fail
  generalize hW0 : (w.alloc (Obj.cells #[(.string va0), (.slice va1 vl1 vk1), (.int .i64 va2), (.slice va3 vl3 vk3)] 132)).alloc (Obj.cells #[(.string { data := #[] }), (.slice none 0 0), (.int .i64 0), (.slice none 0 0)] 132) = W0 at *
  clear hW0
  refine (H138.out F W0 (.slice va1 vl1 vk1) c1 (by have := HN.out; omega) (by have := HL.out; omega) a1 (Rd.mono (rd_fr hF g0 hS) _ _ b1) (fun k hk => Nat.lt_of_lt_of_le (hF k hk) g0.size)).mono ?_
  rintro e0 w1 ⟨u1, d1, rfl, o0, l0⟩
  obtain ⟨ua1, ul1, uk1, rfl⟩ := o0.slf
  have z0 : w.heap.size + 2 ≤ W0.heap.size := by omega
  have p0 : w1.heap[w.heap.size]? = some (.cells #[(.string va0), (.slice va1 vl1 vk1), (.int .i64 va2), (.slice va3 vl3 vk3)] 132 (0, 0)) := (l0.block _ (by omega)).trans x0
  have q0 : w1.heap[w.heap.size + 1]? = some (.cells #[(.string { data := #[] }), (.slice none 0 0), (.int .i64 0), (.slice none 0 0)] 132 (0, 0)) := (l0.block _ (by omega)).trans y0
  have p0_0 : w1.cell? ⟨w.heap.size, 0, none⟩ = some (.string va0) := cell_of_row _ _ 0 _ _ _ p0
  have q0_0 : w1.cell? ⟨w.heap.size + 1, 0, none⟩ = some (.string { data := #[] }) := cell_of_row _ _ 0 _ _ _ q0
  have p0_1 : w1.cell? ⟨w.heap.size, 1, none⟩ = some (.slice va1 vl1 vk1) := cell_of_row _ _ 1 _ _ _ p0
  have q0_1 : w1.cell? ⟨w.heap.size + 1, 1, none⟩ = some (.slice none 0 0) := cell_of_row _ _ 1 _ _ _ q0
  have p0_2 : w1.cell? ⟨w.heap.size, 2, none⟩ = some (.int .i64 va2) := cell_of_row _ _ 2 _ _ _ p0
  have q0_2 : w1.cell? ⟨w.heap.size + 1, 2, none⟩ = some (.int .i64 0) := cell_of_row _ _ 2 _ _ _ q0
  have p0_3 : w1.cell? ⟨w.heap.size, 3, none⟩ = some (.slice va3 vl3 vk3) := cell_of_row _ _ 3 _ _ _ p0
  have q0_3 : w1.cell? ⟨w.heap.size + 1, 3, none⟩ = some (.slice none 0 0) := cell_of_row _ _ 3 _ _ _ q0
  have f0 : ∀ o, w1.frozen? ⟨w.heap.size, o, none⟩ = false := fun o => by simp [World.frozen?, p0]
  have f0' : ∀ o, w1.frozen? ⟨w.heap.size + 1, o, none⟩ = false := fun o => by simp [World.frozen?, q0]
  have g1 : Fr (fun k => k = w.heap.size ∨ k = w.heap.size + 1) w (w1.setCell ⟨w.heap.size, 1, none⟩ (.slice ua1 ul1 uk1)) := ((g0.trans' (Fr.of_below l0 (fun k => k = w.heap.size ∨ k = w.heap.size + 1)) (fun _ _ h => h)).setCell (p := ⟨w.heap.size, 1, none⟩) (fun _ => .inl rfl) (.slice ua1 ul1 uk1))
  have t0 : Fr (fun k => k = w.heap.size ∨ k = w.heap.size + 1) w1 (w1.setCell ⟨w.heap.size, 1, none⟩ (.slice ua1 ul1 uk1)) := ((Fr.refl (fun k => k = w.heap.size ∨ k = w.heap.size + 1) w1).setCell (p := ⟨w.heap.size, 1, none⟩) (fun _ => .inl rfl) (.slice ua1 ul1 uk1))
  have x1 : (w1.setCell ⟨w.heap.size, 1, none⟩ (.slice ua1 ul1 uk1)).heap[w.heap.size]? = some (.cells #[(.string va0), (.slice ua1 ul1 uk1), (.int .i64 va2), (.slice va3 vl3 vk3)] 132 (0, 0)) := (heap_setCell_at (o := 1) (u := (.slice ua1 ul1 uk1)) p0)
  have y1 : (w1.setCell ⟨w.heap.size, 1, none⟩ (.slice ua1 ul1 uk1)).heap[w.heap.size + 1]? = some (.cells #[(.string { data := #[] }), (.slice none 0 0), (.int .i64 0), (.slice none 0 0)] 132 (0, 0)) := by
    rw [Below.heap_setCell _ _ _ _ (by simp)]; exact q0
  have z0' : w.heap.size + 2 ≤ (w1.setCell ⟨w.heap.size, 1, none⟩ (.slice ua1 ul1 uk1)).heap.size := Nat.le_trans (Nat.le_trans z0 l0.size) t0.size
  go_wp2_with fail
  generalize hW1 : (w1.setCell ⟨w.heap.size, 1, none⟩ (.slice ua1 ul1 uk1)) = W1 at *
  clear hW1 p0_0 q0_0 p0_1 q0_1 p0_2 q0_2 p0_3 q0_3 f0 f0'
  refine (H139.out F W1 (.slice va3 vl3 vk3) c3 (by have := HN.out; omega) (by have := HL.out; omega) a3 (Rd.mono (rd_fr hF g1 hS) _ _ b3) (fun k hk => Nat.lt_of_lt_of_le (hF k hk) g1.size)).mono ?_
  rintro e1 w2 ⟨u3, d3, rfl, o1, l1⟩
  obtain ⟨ua3, ul3, uk3, rfl⟩ := o1.slf
  have z1 : w.heap.size + 2 ≤ W1.heap.size := by omega
  have p1 : w2.heap[w.heap.size]? = some (.cells #[(.string va0), (.slice ua1 ul1 uk1), (.int .i64 va2), (.slice va3 vl3 vk3)] 132 (0, 0)) := (l1.block _ (by omega)).trans x1
  have q1 : w2.heap[w.heap.size + 1]? = some (.cells #[(.string { data := #[] }), (.slice none 0 0), (.int .i64 0), (.slice none 0 0)] 132 (0, 0)) := (l1.block _ (by omega)).trans y1
  have p1_0 : w2.cell? ⟨w.heap.size, 0, none⟩ = some (.string va0) := cell_of_row _ _ 0 _ _ _ p1
  have q1_0 : w2.cell? ⟨w.heap.size + 1, 0, none⟩ = some (.string { data := #[] }) := cell_of_row _ _ 0 _ _ _ q1
  have p1_1 : w2.cell? ⟨w.heap.size, 1, none⟩ = some (.slice ua1 ul1 uk1) := cell_of_row _ _ 1 _ _ _ p1
  have q1_1 : w2.cell? ⟨w.heap.size + 1, 1, none⟩ = some (.slice none 0 0) := cell_of_row _ _ 1 _ _ _ q1
  have p1_2 : w2.cell? ⟨w.heap.size, 2, none⟩ = some (.int .i64 va2) := cell_of_row _ _ 2 _ _ _ p1
  have q1_2 : w2.cell? ⟨w.heap.size + 1, 2, none⟩ = some (.int .i64 0) := cell_of_row _ _ 2 _ _ _ q1
  have p1_3 : w2.cell? ⟨w.heap.size, 3, none⟩ = some (.slice va3 vl3 vk3) := cell_of_row _ _ 3 _ _ _ p1
  have q1_3 : w2.cell? ⟨w.heap.size + 1, 3, none⟩ = some (.slice none 0 0) := cell_of_row _ _ 3 _ _ _ q1
  have f1 : ∀ o, w2.frozen? ⟨w.heap.size, o, none⟩ = false := fun o => by simp [World.frozen?, p1]
  have f1' : ∀ o, w2.frozen? ⟨w.heap.size + 1, o, none⟩ = false := fun o => by simp [World.frozen?, q1]
  have g2 : Fr (fun k => k = w.heap.size ∨ k = w.heap.size + 1) w (w2.setCell ⟨w.heap.size, 3, none⟩ (.slice ua3 ul3 uk3)) := ((g1.trans' (Fr.of_below l1 (fun k => k = w.heap.size ∨ k = w.heap.size + 1)) (fun _ _ h => h)).setCell (p := ⟨w.heap.size, 3, none⟩) (fun _ => .inl rfl) (.slice ua3 ul3 uk3))
  have t1 : Fr (fun k => k = w.heap.size ∨ k = w.heap.size + 1) w2 (w2.setCell ⟨w.heap.size, 3, none⟩ (.slice ua3 ul3 uk3)) := ((Fr.refl (fun k => k = w.heap.size ∨ k = w.heap.size + 1) w2).setCell (p := ⟨w.heap.size, 3, none⟩) (fun _ => .inl rfl) (.slice ua3 ul3 uk3))
  have x2 : (w2.setCell ⟨w.heap.size, 3, none⟩ (.slice ua3 ul3 uk3)).heap[w.heap.size]? = some (.cells #[(.string va0), (.slice ua1 ul1 uk1), (.int .i64 va2), (.slice ua3 ul3 uk3)] 132 (0, 0)) := (heap_setCell_at (o := 3) (u := (.slice ua3 ul3 uk3)) p1)
  have y2 : (w2.setCell ⟨w.heap.size, 3, none⟩ (.slice ua3 ul3 uk3)).heap[w.heap.size + 1]? = some (.cells #[(.string { data := #[] }), (.slice none 0 0), (.int .i64 0), (.slice none 0 0)] 132 (0, 0)) := by
    rw [Below.heap_setCell _ _ _ _ (by simp)]; exact q1
  have z1' : w.heap.size + 2 ≤ (w2.setCell ⟨w.heap.size, 3, none⟩ (.slice ua3 ul3 uk3)).heap.size := Nat.le_trans (Nat.le_trans z1 l1.size) t1.size
  go_wp2
  have fin : Fr (fun k => k = w.heap.size ∨ k = w.heap.size + 1) (w2.setCell ⟨w.heap.size, 3, none⟩ (.slice ua3 ul3 uk3)) (((((w2.setCell ⟨w.heap.size, 3, none⟩ (.slice ua3 ul3 uk3)).setCell ⟨w.heap.size + 1, 0, none⟩ (.string va0)).setCell ⟨w.heap.size + 1, 1, none⟩ (.slice ua1 ul1 uk1)).setCell ⟨w.heap.size + 1, 2, none⟩ (.int .i64 va2)).setCell ⟨w.heap.size + 1, 3, none⟩ (.slice ua3 ul3 uk3)) := (((((Fr.refl (fun k => k = w.heap.size ∨ k = w.heap.size + 1) (w2.setCell ⟨w.heap.size, 3, none⟩ (.slice ua3 ul3 uk3))).setCell (p := ⟨w.heap.size + 1, 0, none⟩) (fun _ => .inr rfl) (.string va0)).setCell (p := ⟨w.heap.size + 1, 1, none⟩) (fun _ => .inr rfl) (.slice ua1 ul1 uk1)).setCell (p := ⟨w.heap.size + 1, 2, none⟩) (fun _ => .inr rfl) (.int .i64 va2)).setCell (p := ⟨w.heap.size + 1, 3, none⟩) (fun _ => .inr rfl) (.slice ua3 ul3 uk3))
  have yf : (((((w2.setCell ⟨w.heap.size, 3, none⟩ (.slice ua3 ul3 uk3)).setCell ⟨w.heap.size + 1, 0, none⟩ (.string va0)).setCell ⟨w.heap.size + 1, 1, none⟩ (.slice ua1 ul1 uk1)).setCell ⟨w.heap.size + 1, 2, none⟩ (.int .i64 va2)).setCell ⟨w.heap.size + 1, 3, none⟩ (.slice ua3 ul3 uk3)).heap[w.heap.size + 1]? = some (.cells #[(.string va0), (.slice ua1 ul1 uk1), (.int .i64 va2), (.slice ua3 ul3 uk3)] 132 (0, 0)) := (heap_setCell_at (o := 3) (u := (.slice ua3 ul3 uk3)) (heap_setCell_at (o := 2) (u := (.int .i64 va2)) (heap_setCell_at (o := 1) (u := (.slice ua1 ul1 uk1)) (heap_setCell_at (o := 0) (u := (.string va0)) y2))))
  generalize (((((w2.setCell ⟨w.heap.size, 3, none⟩ (.slice ua3 ul3 uk3)).setCell ⟨w.heap.size + 1, 0, none⟩ (.string va0)).setCell ⟨w.heap.size + 1, 1, none⟩ (.slice ua1 ul1 uk1)).setCell ⟨w.heap.size + 1, 2, none⟩ (.int .i64 va2)).setCell ⟨w.heap.size + 1, 3, none⟩ (.slice ua3 ul3 uk3)) = WF at *
  have e0 : WF.cell? ⟨w.heap.size + 1, 0, none⟩ = some (.string va0) := cell_of_row _ _ 0 _ _ _ yf
  have e1 : WF.cell? ⟨w.heap.size + 1, 1, none⟩ = some (.slice ua1 ul1 uk1) := cell_of_row _ _ 1 _ _ _ yf
  have e2 : WF.cell? ⟨w.heap.size + 1, 2, none⟩ = some (.int .i64 va2) := cell_of_row _ _ 2 _ _ _ yf
  have e3 : WF.cell? ⟨w.heap.size + 1, 3, none⟩ = some (.slice ua3 ul3 uk3) := cell_of_row _ _ 3 _ _ _ yf
  refine bodyPost_ret (v := .agg #[(.string va0), (.slice ua1 ul1 uk1), (.int .i64 va2), (.slice ua3 ul3 uk3)]) (by simp [results, Tryz.results104, go_sem, e0, e1, e2, e3]) rfl ?_
  exact ⟨[(.string va0), (.slice ua1 ul1 uk1), (.int .i64 va2), (.slice ua3 ul3 uk3)], [c0, d1, c2, d3], rfl, ⟨Owned.scalar rfl a0 b0, o0.keep (((t0.trans' (Fr.of_below l1 (fun k => k = w.heap.size ∨ k = w.heap.size + 1)) (fun _ _ h => h)).trans t1).trans fin) (fun k h1 h2 => by omega) (by omega), Owned.scalar rfl a2 b2, o1.keep (t1.trans fin) (fun k h1 h2 => by omega) (by omega), trivial⟩, (g2.trans fin).below (Nat.le_refl _) hS⟩
theorem own_c48 (n : Nat) : OwnS Tryz.prog tab n 48 5 := copied_ownS n copied_48 rfl (by decide) rfl
theorem own_c63 (n : Nat) : OwnS Tryz.prog tab n 63 4 := copied_ownS n copied_63 rfl (by decide) rfl
theorem own_c138 (n : Nat) : OwnS Tryz.prog tab n 138 201 := copied_ownS n copied_138 rfl (by decide) rfl
theorem own_c139 (n : Nat) : OwnS Tryz.prog tab n 139 3 := copied_ownS n copied_139 rfl (by decide) rfl
theorem own_ownBoolses (n : Nat) : OwnS Tryz.prog tab n 49 45 := (own_ownBoolses_of n (own_c63 n)).le (by omega)
theorem own_ownNode (n : Nat) : OwnA Tryz.prog tab n 104 [.str, .sl 201, .int .i64, .sl 3] := own_ownNode_of n (own_c138 n) (own_c139 n)
theorem own_ownNodes (n : Nat) : OwnS Tryz.prog tab n 76 132 := (own_ownNodes_of n (own_ownNode n)).le (by omega)
theorem own_ownTree (n : Nat) : OwnA Tryz.prog tab n 47 [.sl 132] := own_ownTree_of n (own_ownNodes n)
theorem own_ownSharedHas (n : Nat) : OwnA Tryz.prog tab n 7 [.sl 132, .int .i64, .int .u8, .sl 5, .sl 45] := own_ownSharedHas_of n (own_ownTree n) (own_c48 n) (own_ownBoolses n)
theorem own_ownSharedNth (n : Nat) : OwnA Tryz.prog tab n 21 [.sl 132, .int .i64, .bool, .sl 4, .int .i64, .int .i64] := own_ownSharedNth_of n (own_ownTree n) (own_c63 n)
theorem own_ownSharedComb (n : Nat) : OwnA Tryz.prog tab n 31 [.sl 132, .sl 5, .sl 45, .int .i64] := own_ownSharedComb_of n (own_ownTree n) (own_c48 n) (own_ownBoolses n)
end Go.Proofs.YtgkamgijnhbcbaaGreatDoor
