/- The functions of the law that make a tree of their own. -/
import Derived.Test.YtomnkglnbmnmpaaGreatDoorCopied
import Derived.Test.YtomnkglnbmnmpaaGreatDoorOwn
import Derived.WalkKit
import Derived.WalkSpells
import Derived.WalkLawsBesides
namespace Go.Proofs.YtomnkglnbmnmpaaGreatDoor
open Go.RowKit Go.Vt Go.Proofs
set_option maxRecDepth 100000 in
set_option maxHeartbeats 400000 in
theorem own_ownSharedMutate_of (n : Nat) (h72 : OwnA Tryz.prog tab n 72 [.sl 107]) : OwnA Tryz.prog tab n 8 [.sl 107, .int .i64, .int .i64, .int .i64] := by
  intro F w vs cs hn hl ht0 hr0 hF
  obtain ⟨c0, cs0, rfl, a0, ht1⟩ := ht0.cons
  obtain ⟨v0, vs0, rfl, b0, hr1⟩ := hr0.cons
  obtain ⟨c1, cs1, rfl, a1, ht2⟩ := ht1.cons
  obtain ⟨v1, vs1, rfl, b1, hr2⟩ := hr1.cons
  obtain ⟨c2, cs2, rfl, a2, ht3⟩ := ht2.cons
  obtain ⟨v2, vs2, rfl, b2, hr3⟩ := hr2.cons
  obtain ⟨c3, cs3, rfl, a3, ht4⟩ := ht3.cons
  obtain ⟨v3, vs3, rfl, b3, hr4⟩ := hr3.cons
  obtain rfl := ht4.nil
  obtain rfl := hr4.nil
  obtain ⟨va0, vl0, vk0, rfl⟩ := Ht.slf a0 b0
  obtain ⟨va1, rfl⟩ := Ht.intf a1 b1
  obtain ⟨va2, rfl⟩ := Ht.intf a2 b2
  obtain ⟨va3, rfl⟩ := Ht.intf a3 b3
  simp only [nodesRow, Nat.add_zero] at hn hl
  have H72 := Lib.hid h72
  clear h72
  have HN := Lib.hid hn
  have HL := Lib.hid hl
  clear hn hl
  have hS : ∀ k, k < w.heap.size → ¬ (k = w.heap.size ∨ k = w.heap.size + 1) := fun k hk => by omega
  have g0 : Fr (fun k => k = w.heap.size ∨ k = w.heap.size + 1) w ((w.alloc (Obj.cells #[(.slice va0 vl0 vk0), (.int .i64 va1), (.int .i64 va2), (.int .i64 va3)] 26)).alloc (Obj.cells #[(.slice none 0 0), (.int .i64 0), (.int .i64 0), (.int .i64 0)] 26)) := ((Fr.refl _ _).alloc _).alloc _
  have s0 : ((w.alloc (Obj.cells #[(.slice va0 vl0 vk0), (.int .i64 va1), (.int .i64 va2), (.int .i64 va3)] 26)).alloc (Obj.cells #[(.slice none 0 0), (.int .i64 0), (.int .i64 0), (.int .i64 0)] 26)).heap.size = w.heap.size + 2 := by rw [alloc_size, alloc_size]
  have x0 : ((w.alloc (Obj.cells #[(.slice va0 vl0 vk0), (.int .i64 va1), (.int .i64 va2), (.int .i64 va3)] 26)).alloc (Obj.cells #[(.slice none 0 0), (.int .i64 0), (.int .i64 0), (.int .i64 0)] 26)).heap[w.heap.size]? = some (.cells #[(.slice va0 vl0 vk0), (.int .i64 va1), (.int .i64 va2), (.int .i64 va3)] 26 (0, 0)) := (Below.heap_alloc _ _ _ (by rw [alloc_size]; omega)).trans (heap_alloc_new w _)
  have y0 : ((w.alloc (Obj.cells #[(.slice va0 vl0 vk0), (.int .i64 va1), (.int .i64 va2), (.int .i64 va3)] 26)).alloc (Obj.cells #[(.slice none 0 0), (.int .i64 0), (.int .i64 0), (.int .i64 0)] 26)).heap[w.heap.size + 1]? = some (.cells #[(.slice none 0 0), (.int .i64 0), (.int .i64 0), (.int .i64 0)] 26 (0, 0)) := by
    have := heap_alloc_new (w.alloc (Obj.cells #[(.slice va0 vl0 vk0), (.int .i64 va1), (.int .i64 va2), (.int .i64 va3)] 26)) (Obj.cells #[(.slice none 0 0), (.int .i64 0), (.int .i64 0), (.int .i64 0)] 26); rwa [alloc_size] at this
  go_enter Tryz.func8, Tryz.ntmps8
  go_wp2_with fail
  generalize hW0 : (w.alloc (Obj.cells #[(.slice va0 vl0 vk0), (.int .i64 va1), (.int .i64 va2), (.int .i64 va3)] 26)).alloc (Obj.cells #[(.slice none 0 0), (.int .i64 0), (.int .i64 0), (.int .i64 0)] 26) = W0 at *
  clear hW0
  refine (H72.out F W0 [(.slice va0 vl0 vk0)] [c0] (by have := HN.out; simp only [nodesRow, Nat.add_zero]; omega) (by have := HL.out; simp only [nodesRow, Nat.add_zero]; omega) (by simp only [HtRow]; exact ⟨a0, trivial⟩) ⟨Rd.mono (rd_fr hF g0 hS) _ _ b0, trivial⟩ (fun k hk => Nat.lt_of_lt_of_le (hF k hk) g0.size)).mono ?_
  rintro e0 w1 ⟨vs0, ds0, rfl, o0, l0⟩
  have hlu0 := o0.len
  change vs0.length = 1 at hlu0
  obtain ⟨u0, ul0, rfl, hlu0_0⟩ := len_cons hlu0
  obtain rfl := len_nil hlu0_0
  obtain ⟨d0, ds0, rfl, o0_0, o0t0⟩ := o0.cons
  obtain rfl := o0t0.nil
  obtain ⟨ua0, ul0, uk0, rfl⟩ := o0_0.slf
  have z0 : w.heap.size + 2 ≤ W0.heap.size := by omega
  have p0 : w1.heap[w.heap.size]? = some (.cells #[(.slice va0 vl0 vk0), (.int .i64 va1), (.int .i64 va2), (.int .i64 va3)] 26 (0, 0)) := (l0.block _ (by omega)).trans x0
  have q0 : w1.heap[w.heap.size + 1]? = some (.cells #[(.slice none 0 0), (.int .i64 0), (.int .i64 0), (.int .i64 0)] 26 (0, 0)) := (l0.block _ (by omega)).trans y0
  have p0_0 : w1.cell? ⟨w.heap.size, 0, none⟩ = some (.slice va0 vl0 vk0) := cell_of_row _ _ 0 _ _ _ p0
  have q0_0 : w1.cell? ⟨w.heap.size + 1, 0, none⟩ = some (.slice none 0 0) := cell_of_row _ _ 0 _ _ _ q0
  have p0_1 : w1.cell? ⟨w.heap.size, 1, none⟩ = some (.int .i64 va1) := cell_of_row _ _ 1 _ _ _ p0
  have q0_1 : w1.cell? ⟨w.heap.size + 1, 1, none⟩ = some (.int .i64 0) := cell_of_row _ _ 1 _ _ _ q0
  have p0_2 : w1.cell? ⟨w.heap.size, 2, none⟩ = some (.int .i64 va2) := cell_of_row _ _ 2 _ _ _ p0
  have q0_2 : w1.cell? ⟨w.heap.size + 1, 2, none⟩ = some (.int .i64 0) := cell_of_row _ _ 2 _ _ _ q0
  have p0_3 : w1.cell? ⟨w.heap.size, 3, none⟩ = some (.int .i64 va3) := cell_of_row _ _ 3 _ _ _ p0
  have q0_3 : w1.cell? ⟨w.heap.size + 1, 3, none⟩ = some (.int .i64 0) := cell_of_row _ _ 3 _ _ _ q0
  have f0 : ∀ o, w1.frozen? ⟨w.heap.size, o, none⟩ = false := fun o => by simp [World.frozen?, p0]
  have f0' : ∀ o, w1.frozen? ⟨w.heap.size + 1, o, none⟩ = false := fun o => by simp [World.frozen?, q0]
  have g1 : Fr (fun k => k = w.heap.size ∨ k = w.heap.size + 1) w (w1.setCell ⟨w.heap.size, 0, none⟩ (.slice ua0 ul0 uk0)) := ((g0.trans' (Fr.of_below l0 (fun k => k = w.heap.size ∨ k = w.heap.size + 1)) (fun _ _ h => h)).setCell (p := ⟨w.heap.size, 0, none⟩) (fun _ => .inl rfl) (.slice ua0 ul0 uk0))
  have t0 : Fr (fun k => k = w.heap.size ∨ k = w.heap.size + 1) w1 (w1.setCell ⟨w.heap.size, 0, none⟩ (.slice ua0 ul0 uk0)) := ((Fr.refl (fun k => k = w.heap.size ∨ k = w.heap.size + 1) w1).setCell (p := ⟨w.heap.size, 0, none⟩) (fun _ => .inl rfl) (.slice ua0 ul0 uk0))
  have x1 : (w1.setCell ⟨w.heap.size, 0, none⟩ (.slice ua0 ul0 uk0)).heap[w.heap.size]? = some (.cells #[(.slice ua0 ul0 uk0), (.int .i64 va1), (.int .i64 va2), (.int .i64 va3)] 26 (0, 0)) := (heap_setCell_at (o := 0) (u := (.slice ua0 ul0 uk0)) p0)
  have y1 : (w1.setCell ⟨w.heap.size, 0, none⟩ (.slice ua0 ul0 uk0)).heap[w.heap.size + 1]? = some (.cells #[(.slice none 0 0), (.int .i64 0), (.int .i64 0), (.int .i64 0)] 26 (0, 0)) := by
    rw [Below.heap_setCell _ _ _ _ (by simp)]; exact q0
  have z0' : w.heap.size + 2 ≤ (w1.setCell ⟨w.heap.size, 0, none⟩ (.slice ua0 ul0 uk0)).heap.size := Nat.le_trans (Nat.le_trans z0 l0.size) t0.size
  go_wp2
  have fin : Fr (fun k => k = w.heap.size ∨ k = w.heap.size + 1) (w1.setCell ⟨w.heap.size, 0, none⟩ (.slice ua0 ul0 uk0)) (((((w1.setCell ⟨w.heap.size, 0, none⟩ (.slice ua0 ul0 uk0)).setCell ⟨w.heap.size + 1, 0, none⟩ (.slice ua0 ul0 uk0)).setCell ⟨w.heap.size + 1, 1, none⟩ (.int .i64 va1)).setCell ⟨w.heap.size + 1, 2, none⟩ (.int .i64 va2)).setCell ⟨w.heap.size + 1, 3, none⟩ (.int .i64 va3)) := (((((Fr.refl (fun k => k = w.heap.size ∨ k = w.heap.size + 1) (w1.setCell ⟨w.heap.size, 0, none⟩ (.slice ua0 ul0 uk0))).setCell (p := ⟨w.heap.size + 1, 0, none⟩) (fun _ => .inr rfl) (.slice ua0 ul0 uk0)).setCell (p := ⟨w.heap.size + 1, 1, none⟩) (fun _ => .inr rfl) (.int .i64 va1)).setCell (p := ⟨w.heap.size + 1, 2, none⟩) (fun _ => .inr rfl) (.int .i64 va2)).setCell (p := ⟨w.heap.size + 1, 3, none⟩) (fun _ => .inr rfl) (.int .i64 va3))
  have yf : (((((w1.setCell ⟨w.heap.size, 0, none⟩ (.slice ua0 ul0 uk0)).setCell ⟨w.heap.size + 1, 0, none⟩ (.slice ua0 ul0 uk0)).setCell ⟨w.heap.size + 1, 1, none⟩ (.int .i64 va1)).setCell ⟨w.heap.size + 1, 2, none⟩ (.int .i64 va2)).setCell ⟨w.heap.size + 1, 3, none⟩ (.int .i64 va3)).heap[w.heap.size + 1]? = some (.cells #[(.slice ua0 ul0 uk0), (.int .i64 va1), (.int .i64 va2), (.int .i64 va3)] 26 (0, 0)) := (heap_setCell_at (o := 3) (u := (.int .i64 va3)) (heap_setCell_at (o := 2) (u := (.int .i64 va2)) (heap_setCell_at (o := 1) (u := (.int .i64 va1)) (heap_setCell_at (o := 0) (u := (.slice ua0 ul0 uk0)) y1))))
  generalize (((((w1.setCell ⟨w.heap.size, 0, none⟩ (.slice ua0 ul0 uk0)).setCell ⟨w.heap.size + 1, 0, none⟩ (.slice ua0 ul0 uk0)).setCell ⟨w.heap.size + 1, 1, none⟩ (.int .i64 va1)).setCell ⟨w.heap.size + 1, 2, none⟩ (.int .i64 va2)).setCell ⟨w.heap.size + 1, 3, none⟩ (.int .i64 va3)) = WF at *
  have e0 : WF.cell? ⟨w.heap.size + 1, 0, none⟩ = some (.slice ua0 ul0 uk0) := cell_of_row _ _ 0 _ _ _ yf
  have e1 : WF.cell? ⟨w.heap.size + 1, 1, none⟩ = some (.int .i64 va1) := cell_of_row _ _ 1 _ _ _ yf
  have e2 : WF.cell? ⟨w.heap.size + 1, 2, none⟩ = some (.int .i64 va2) := cell_of_row _ _ 2 _ _ _ yf
  have e3 : WF.cell? ⟨w.heap.size + 1, 3, none⟩ = some (.int .i64 va3) := cell_of_row _ _ 3 _ _ _ yf
  refine bodyPost_ret (v := .agg #[(.slice ua0 ul0 uk0), (.int .i64 va1), (.int .i64 va2), (.int .i64 va3)]) (by simp [results, Tryz.results8, go_sem, e0, e1, e2, e3]) rfl ?_
  exact ⟨[(.slice ua0 ul0 uk0), (.int .i64 va1), (.int .i64 va2), (.int .i64 va3)], [d0, c1, c2, c3], rfl, ⟨o0_0.keep (t0.trans fin) (fun k h1 h2 => by omega) (by omega), Owned.scalar rfl a1 b1, Owned.scalar rfl a2 b2, Owned.scalar rfl a3 b3, trivial⟩, (g1.trans fin).below (Nat.le_refl _) hS⟩
set_option maxRecDepth 100000 in
set_option maxHeartbeats 400000 in
theorem own_ownSharedAttrs_of (n : Nat) (h72 : OwnA Tryz.prog tab n 72 [.sl 107]) : OwnA Tryz.prog tab n 22 [.sl 107, .int .i64, .str, .str, .str] := by
  intro F w vs cs hn hl ht0 hr0 hF
  obtain ⟨c0, cs0, rfl, a0, ht1⟩ := ht0.cons
  obtain ⟨v0, vs0, rfl, b0, hr1⟩ := hr0.cons
  obtain ⟨c1, cs1, rfl, a1, ht2⟩ := ht1.cons
  obtain ⟨v1, vs1, rfl, b1, hr2⟩ := hr1.cons
  obtain ⟨c2, cs2, rfl, a2, ht3⟩ := ht2.cons
  obtain ⟨v2, vs2, rfl, b2, hr3⟩ := hr2.cons
  obtain ⟨c3, cs3, rfl, a3, ht4⟩ := ht3.cons
  obtain ⟨v3, vs3, rfl, b3, hr4⟩ := hr3.cons
  obtain ⟨c4, cs4, rfl, a4, ht5⟩ := ht4.cons
  obtain ⟨v4, vs4, rfl, b4, hr5⟩ := hr4.cons
  obtain rfl := ht5.nil
  obtain rfl := hr5.nil
  obtain ⟨va0, vl0, vk0, rfl⟩ := Ht.slf a0 b0
  obtain ⟨va1, rfl⟩ := Ht.intf a1 b1
  obtain ⟨va2, rfl⟩ := Ht.strf a2 b2
  obtain ⟨va3, rfl⟩ := Ht.strf a3 b3
  obtain ⟨va4, rfl⟩ := Ht.strf a4 b4
  simp only [nodesRow, Nat.add_zero] at hn hl
  have H72 := Lib.hid h72
  clear h72
  have HN := Lib.hid hn
  have HL := Lib.hid hl
  clear hn hl
  have hS : ∀ k, k < w.heap.size → ¬ (k = w.heap.size ∨ k = w.heap.size + 1) := fun k hk => by omega
  have g0 : Fr (fun k => k = w.heap.size ∨ k = w.heap.size + 1) w ((w.alloc (Obj.cells #[(.slice va0 vl0 vk0), (.int .i64 va1), (.string va2), (.string va3), (.string va4)] 45)).alloc (Obj.cells #[(.slice none 0 0), (.int .i64 0), (.string { data := #[] }), (.string { data := #[] }), (.string { data := #[] })] 45)) := ((Fr.refl _ _).alloc _).alloc _
  have s0 : ((w.alloc (Obj.cells #[(.slice va0 vl0 vk0), (.int .i64 va1), (.string va2), (.string va3), (.string va4)] 45)).alloc (Obj.cells #[(.slice none 0 0), (.int .i64 0), (.string { data := #[] }), (.string { data := #[] }), (.string { data := #[] })] 45)).heap.size = w.heap.size + 2 := by rw [alloc_size, alloc_size]
  have x0 : ((w.alloc (Obj.cells #[(.slice va0 vl0 vk0), (.int .i64 va1), (.string va2), (.string va3), (.string va4)] 45)).alloc (Obj.cells #[(.slice none 0 0), (.int .i64 0), (.string { data := #[] }), (.string { data := #[] }), (.string { data := #[] })] 45)).heap[w.heap.size]? = some (.cells #[(.slice va0 vl0 vk0), (.int .i64 va1), (.string va2), (.string va3), (.string va4)] 45 (0, 0)) := (Below.heap_alloc _ _ _ (by rw [alloc_size]; omega)).trans (heap_alloc_new w _)
  have y0 : ((w.alloc (Obj.cells #[(.slice va0 vl0 vk0), (.int .i64 va1), (.string va2), (.string va3), (.string va4)] 45)).alloc (Obj.cells #[(.slice none 0 0), (.int .i64 0), (.string { data := #[] }), (.string { data := #[] }), (.string { data := #[] })] 45)).heap[w.heap.size + 1]? = some (.cells #[(.slice none 0 0), (.int .i64 0), (.string { data := #[] }), (.string { data := #[] }), (.string { data := #[] })] 45 (0, 0)) := by
    have := heap_alloc_new (w.alloc (Obj.cells #[(.slice va0 vl0 vk0), (.int .i64 va1), (.string va2), (.string va3), (.string va4)] 45)) (Obj.cells #[(.slice none 0 0), (.int .i64 0), (.string { data := #[] }), (.string { data := #[] }), (.string { data := #[] })] 45); rwa [alloc_size] at this
  go_enter Tryz.func22, Tryz.ntmps22
  go_wp2_with fail
  generalize hW0 : (w.alloc (Obj.cells #[(.slice va0 vl0 vk0), (.int .i64 va1), (.string va2), (.string va3), (.string va4)] 45)).alloc (Obj.cells #[(.slice none 0 0), (.int .i64 0), (.string { data := #[] }), (.string { data := #[] }), (.string { data := #[] })] 45) = W0 at *
  clear hW0
  refine (H72.out F W0 [(.slice va0 vl0 vk0)] [c0] (by have := HN.out; simp only [nodesRow, Nat.add_zero]; omega) (by have := HL.out; simp only [nodesRow, Nat.add_zero]; omega) (by simp only [HtRow]; exact ⟨a0, trivial⟩) ⟨Rd.mono (rd_fr hF g0 hS) _ _ b0, trivial⟩ (fun k hk => Nat.lt_of_lt_of_le (hF k hk) g0.size)).mono ?_
  rintro e0 w1 ⟨vs0, ds0, rfl, o0, l0⟩
  have hlu0 := o0.len
  change vs0.length = 1 at hlu0
  obtain ⟨u0, ul0, rfl, hlu0_0⟩ := len_cons hlu0
  obtain rfl := len_nil hlu0_0
  obtain ⟨d0, ds0, rfl, o0_0, o0t0⟩ := o0.cons
  obtain rfl := o0t0.nil
  obtain ⟨ua0, ul0, uk0, rfl⟩ := o0_0.slf
  have z0 : w.heap.size + 2 ≤ W0.heap.size := by omega
  have p0 : w1.heap[w.heap.size]? = some (.cells #[(.slice va0 vl0 vk0), (.int .i64 va1), (.string va2), (.string va3), (.string va4)] 45 (0, 0)) := (l0.block _ (by omega)).trans x0
  have q0 : w1.heap[w.heap.size + 1]? = some (.cells #[(.slice none 0 0), (.int .i64 0), (.string { data := #[] }), (.string { data := #[] }), (.string { data := #[] })] 45 (0, 0)) := (l0.block _ (by omega)).trans y0
  have p0_0 : w1.cell? ⟨w.heap.size, 0, none⟩ = some (.slice va0 vl0 vk0) := cell_of_row _ _ 0 _ _ _ p0
  have q0_0 : w1.cell? ⟨w.heap.size + 1, 0, none⟩ = some (.slice none 0 0) := cell_of_row _ _ 0 _ _ _ q0
  have p0_1 : w1.cell? ⟨w.heap.size, 1, none⟩ = some (.int .i64 va1) := cell_of_row _ _ 1 _ _ _ p0
  have q0_1 : w1.cell? ⟨w.heap.size + 1, 1, none⟩ = some (.int .i64 0) := cell_of_row _ _ 1 _ _ _ q0
  have p0_2 : w1.cell? ⟨w.heap.size, 2, none⟩ = some (.string va2) := cell_of_row _ _ 2 _ _ _ p0
  have q0_2 : w1.cell? ⟨w.heap.size + 1, 2, none⟩ = some (.string { data := #[] }) := cell_of_row _ _ 2 _ _ _ q0
  have p0_3 : w1.cell? ⟨w.heap.size, 3, none⟩ = some (.string va3) := cell_of_row _ _ 3 _ _ _ p0
  have q0_3 : w1.cell? ⟨w.heap.size + 1, 3, none⟩ = some (.string { data := #[] }) := cell_of_row _ _ 3 _ _ _ q0
  have p0_4 : w1.cell? ⟨w.heap.size, 4, none⟩ = some (.string va4) := cell_of_row _ _ 4 _ _ _ p0
  have q0_4 : w1.cell? ⟨w.heap.size + 1, 4, none⟩ = some (.string { data := #[] }) := cell_of_row _ _ 4 _ _ _ q0
  have f0 : ∀ o, w1.frozen? ⟨w.heap.size, o, none⟩ = false := fun o => by simp [World.frozen?, p0]
  have f0' : ∀ o, w1.frozen? ⟨w.heap.size + 1, o, none⟩ = false := fun o => by simp [World.frozen?, q0]
  have g1 : Fr (fun k => k = w.heap.size ∨ k = w.heap.size + 1) w (w1.setCell ⟨w.heap.size, 0, none⟩ (.slice ua0 ul0 uk0)) := ((g0.trans' (Fr.of_below l0 (fun k => k = w.heap.size ∨ k = w.heap.size + 1)) (fun _ _ h => h)).setCell (p := ⟨w.heap.size, 0, none⟩) (fun _ => .inl rfl) (.slice ua0 ul0 uk0))
  have t0 : Fr (fun k => k = w.heap.size ∨ k = w.heap.size + 1) w1 (w1.setCell ⟨w.heap.size, 0, none⟩ (.slice ua0 ul0 uk0)) := ((Fr.refl (fun k => k = w.heap.size ∨ k = w.heap.size + 1) w1).setCell (p := ⟨w.heap.size, 0, none⟩) (fun _ => .inl rfl) (.slice ua0 ul0 uk0))
  have x1 : (w1.setCell ⟨w.heap.size, 0, none⟩ (.slice ua0 ul0 uk0)).heap[w.heap.size]? = some (.cells #[(.slice ua0 ul0 uk0), (.int .i64 va1), (.string va2), (.string va3), (.string va4)] 45 (0, 0)) := (heap_setCell_at (o := 0) (u := (.slice ua0 ul0 uk0)) p0)
  have y1 : (w1.setCell ⟨w.heap.size, 0, none⟩ (.slice ua0 ul0 uk0)).heap[w.heap.size + 1]? = some (.cells #[(.slice none 0 0), (.int .i64 0), (.string { data := #[] }), (.string { data := #[] }), (.string { data := #[] })] 45 (0, 0)) := by
    rw [Below.heap_setCell _ _ _ _ (by simp)]; exact q0
  have z0' : w.heap.size + 2 ≤ (w1.setCell ⟨w.heap.size, 0, none⟩ (.slice ua0 ul0 uk0)).heap.size := Nat.le_trans (Nat.le_trans z0 l0.size) t0.size
  go_wp2
  have fin : Fr (fun k => k = w.heap.size ∨ k = w.heap.size + 1) (w1.setCell ⟨w.heap.size, 0, none⟩ (.slice ua0 ul0 uk0)) ((((((w1.setCell ⟨w.heap.size, 0, none⟩ (.slice ua0 ul0 uk0)).setCell ⟨w.heap.size + 1, 0, none⟩ (.slice ua0 ul0 uk0)).setCell ⟨w.heap.size + 1, 1, none⟩ (.int .i64 va1)).setCell ⟨w.heap.size + 1, 2, none⟩ (.string va2)).setCell ⟨w.heap.size + 1, 3, none⟩ (.string va3)).setCell ⟨w.heap.size + 1, 4, none⟩ (.string va4)) := ((((((Fr.refl (fun k => k = w.heap.size ∨ k = w.heap.size + 1) (w1.setCell ⟨w.heap.size, 0, none⟩ (.slice ua0 ul0 uk0))).setCell (p := ⟨w.heap.size + 1, 0, none⟩) (fun _ => .inr rfl) (.slice ua0 ul0 uk0)).setCell (p := ⟨w.heap.size + 1, 1, none⟩) (fun _ => .inr rfl) (.int .i64 va1)).setCell (p := ⟨w.heap.size + 1, 2, none⟩) (fun _ => .inr rfl) (.string va2)).setCell (p := ⟨w.heap.size + 1, 3, none⟩) (fun _ => .inr rfl) (.string va3)).setCell (p := ⟨w.heap.size + 1, 4, none⟩) (fun _ => .inr rfl) (.string va4))
  have yf : ((((((w1.setCell ⟨w.heap.size, 0, none⟩ (.slice ua0 ul0 uk0)).setCell ⟨w.heap.size + 1, 0, none⟩ (.slice ua0 ul0 uk0)).setCell ⟨w.heap.size + 1, 1, none⟩ (.int .i64 va1)).setCell ⟨w.heap.size + 1, 2, none⟩ (.string va2)).setCell ⟨w.heap.size + 1, 3, none⟩ (.string va3)).setCell ⟨w.heap.size + 1, 4, none⟩ (.string va4)).heap[w.heap.size + 1]? = some (.cells #[(.slice ua0 ul0 uk0), (.int .i64 va1), (.string va2), (.string va3), (.string va4)] 45 (0, 0)) := (heap_setCell_at (o := 4) (u := (.string va4)) (heap_setCell_at (o := 3) (u := (.string va3)) (heap_setCell_at (o := 2) (u := (.string va2)) (heap_setCell_at (o := 1) (u := (.int .i64 va1)) (heap_setCell_at (o := 0) (u := (.slice ua0 ul0 uk0)) y1)))))
  generalize ((((((w1.setCell ⟨w.heap.size, 0, none⟩ (.slice ua0 ul0 uk0)).setCell ⟨w.heap.size + 1, 0, none⟩ (.slice ua0 ul0 uk0)).setCell ⟨w.heap.size + 1, 1, none⟩ (.int .i64 va1)).setCell ⟨w.heap.size + 1, 2, none⟩ (.string va2)).setCell ⟨w.heap.size + 1, 3, none⟩ (.string va3)).setCell ⟨w.heap.size + 1, 4, none⟩ (.string va4)) = WF at *
  have e0 : WF.cell? ⟨w.heap.size + 1, 0, none⟩ = some (.slice ua0 ul0 uk0) := cell_of_row _ _ 0 _ _ _ yf
  have e1 : WF.cell? ⟨w.heap.size + 1, 1, none⟩ = some (.int .i64 va1) := cell_of_row _ _ 1 _ _ _ yf
  have e2 : WF.cell? ⟨w.heap.size + 1, 2, none⟩ = some (.string va2) := cell_of_row _ _ 2 _ _ _ yf
  have e3 : WF.cell? ⟨w.heap.size + 1, 3, none⟩ = some (.string va3) := cell_of_row _ _ 3 _ _ _ yf
  have e4 : WF.cell? ⟨w.heap.size + 1, 4, none⟩ = some (.string va4) := cell_of_row _ _ 4 _ _ _ yf
  refine bodyPost_ret (v := .agg #[(.slice ua0 ul0 uk0), (.int .i64 va1), (.string va2), (.string va3), (.string va4)]) (by simp [results, Tryz.results22, go_sem, e0, e1, e2, e3, e4]) rfl ?_
  exact ⟨[(.slice ua0 ul0 uk0), (.int .i64 va1), (.string va2), (.string va3), (.string va4)], [d0, c1, c2, c3, c4], rfl, ⟨o0_0.keep (t0.trans fin) (fun k h1 h2 => by omega) (by omega), Owned.scalar rfl a1 b1, Owned.scalar rfl a2 b2, Owned.scalar rfl a3 b3, Owned.scalar rfl a4 b4, trivial⟩, (g1.trans fin).below (Nat.le_refl _) hS⟩
set_option maxRecDepth 100000 in
set_option maxHeartbeats 400000 in
theorem own_ownSharedOrder_of (n : Nat) (h72 : OwnA Tryz.prog tab n 72 [.sl 107]) : OwnA Tryz.prog tab n 39 [.sl 107, .int .i64, .int .i64] := by
  intro F w vs cs hn hl ht0 hr0 hF
  obtain ⟨c0, cs0, rfl, a0, ht1⟩ := ht0.cons
  obtain ⟨v0, vs0, rfl, b0, hr1⟩ := hr0.cons
  obtain ⟨c1, cs1, rfl, a1, ht2⟩ := ht1.cons
  obtain ⟨v1, vs1, rfl, b1, hr2⟩ := hr1.cons
  obtain ⟨c2, cs2, rfl, a2, ht3⟩ := ht2.cons
  obtain ⟨v2, vs2, rfl, b2, hr3⟩ := hr2.cons
  obtain rfl := ht3.nil
  obtain rfl := hr3.nil
  obtain ⟨va0, vl0, vk0, rfl⟩ := Ht.slf a0 b0
  obtain ⟨va1, rfl⟩ := Ht.intf a1 b1
  obtain ⟨va2, rfl⟩ := Ht.intf a2 b2
  simp only [nodesRow, Nat.add_zero] at hn hl
  have H72 := Lib.hid h72
  clear h72
  have HN := Lib.hid hn
  have HL := Lib.hid hl
  clear hn hl
  have hS : ∀ k, k < w.heap.size → ¬ (k = w.heap.size ∨ k = w.heap.size + 1) := fun k hk => by omega
  have g0 : Fr (fun k => k = w.heap.size ∨ k = w.heap.size + 1) w ((w.alloc (Obj.cells #[(.slice va0 vl0 vk0), (.int .i64 va1), (.int .i64 va2)] 65)).alloc (Obj.cells #[(.slice none 0 0), (.int .i64 0), (.int .i64 0)] 65)) := ((Fr.refl _ _).alloc _).alloc _
  have s0 : ((w.alloc (Obj.cells #[(.slice va0 vl0 vk0), (.int .i64 va1), (.int .i64 va2)] 65)).alloc (Obj.cells #[(.slice none 0 0), (.int .i64 0), (.int .i64 0)] 65)).heap.size = w.heap.size + 2 := by rw [alloc_size, alloc_size]
  have x0 : ((w.alloc (Obj.cells #[(.slice va0 vl0 vk0), (.int .i64 va1), (.int .i64 va2)] 65)).alloc (Obj.cells #[(.slice none 0 0), (.int .i64 0), (.int .i64 0)] 65)).heap[w.heap.size]? = some (.cells #[(.slice va0 vl0 vk0), (.int .i64 va1), (.int .i64 va2)] 65 (0, 0)) := (Below.heap_alloc _ _ _ (by rw [alloc_size]; omega)).trans (heap_alloc_new w _)
  have y0 : ((w.alloc (Obj.cells #[(.slice va0 vl0 vk0), (.int .i64 va1), (.int .i64 va2)] 65)).alloc (Obj.cells #[(.slice none 0 0), (.int .i64 0), (.int .i64 0)] 65)).heap[w.heap.size + 1]? = some (.cells #[(.slice none 0 0), (.int .i64 0), (.int .i64 0)] 65 (0, 0)) := by
    have := heap_alloc_new (w.alloc (Obj.cells #[(.slice va0 vl0 vk0), (.int .i64 va1), (.int .i64 va2)] 65)) (Obj.cells #[(.slice none 0 0), (.int .i64 0), (.int .i64 0)] 65); rwa [alloc_size] at this
  go_enter Tryz.func39, Tryz.ntmps39
  go_wp2_with fail
  generalize hW0 : (w.alloc (Obj.cells #[(.slice va0 vl0 vk0), (.int .i64 va1), (.int .i64 va2)] 65)).alloc (Obj.cells #[(.slice none 0 0), (.int .i64 0), (.int .i64 0)] 65) = W0 at *
  clear hW0
  refine (H72.out F W0 [(.slice va0 vl0 vk0)] [c0] (by have := HN.out; simp only [nodesRow, Nat.add_zero]; omega) (by have := HL.out; simp only [nodesRow, Nat.add_zero]; omega) (by simp only [HtRow]; exact ⟨a0, trivial⟩) ⟨Rd.mono (rd_fr hF g0 hS) _ _ b0, trivial⟩ (fun k hk => Nat.lt_of_lt_of_le (hF k hk) g0.size)).mono ?_
  rintro e0 w1 ⟨vs0, ds0, rfl, o0, l0⟩
  have hlu0 := o0.len
  change vs0.length = 1 at hlu0
  obtain ⟨u0, ul0, rfl, hlu0_0⟩ := len_cons hlu0
  obtain rfl := len_nil hlu0_0
  obtain ⟨d0, ds0, rfl, o0_0, o0t0⟩ := o0.cons
  obtain rfl := o0t0.nil
  obtain ⟨ua0, ul0, uk0, rfl⟩ := o0_0.slf
  have z0 : w.heap.size + 2 ≤ W0.heap.size := by omega
  have p0 : w1.heap[w.heap.size]? = some (.cells #[(.slice va0 vl0 vk0), (.int .i64 va1), (.int .i64 va2)] 65 (0, 0)) := (l0.block _ (by omega)).trans x0
  have q0 : w1.heap[w.heap.size + 1]? = some (.cells #[(.slice none 0 0), (.int .i64 0), (.int .i64 0)] 65 (0, 0)) := (l0.block _ (by omega)).trans y0
  have p0_0 : w1.cell? ⟨w.heap.size, 0, none⟩ = some (.slice va0 vl0 vk0) := cell_of_row _ _ 0 _ _ _ p0
  have q0_0 : w1.cell? ⟨w.heap.size + 1, 0, none⟩ = some (.slice none 0 0) := cell_of_row _ _ 0 _ _ _ q0
  have p0_1 : w1.cell? ⟨w.heap.size, 1, none⟩ = some (.int .i64 va1) := cell_of_row _ _ 1 _ _ _ p0
  have q0_1 : w1.cell? ⟨w.heap.size + 1, 1, none⟩ = some (.int .i64 0) := cell_of_row _ _ 1 _ _ _ q0
  have p0_2 : w1.cell? ⟨w.heap.size, 2, none⟩ = some (.int .i64 va2) := cell_of_row _ _ 2 _ _ _ p0
  have q0_2 : w1.cell? ⟨w.heap.size + 1, 2, none⟩ = some (.int .i64 0) := cell_of_row _ _ 2 _ _ _ q0
  have f0 : ∀ o, w1.frozen? ⟨w.heap.size, o, none⟩ = false := fun o => by simp [World.frozen?, p0]
  have f0' : ∀ o, w1.frozen? ⟨w.heap.size + 1, o, none⟩ = false := fun o => by simp [World.frozen?, q0]
  have g1 : Fr (fun k => k = w.heap.size ∨ k = w.heap.size + 1) w (w1.setCell ⟨w.heap.size, 0, none⟩ (.slice ua0 ul0 uk0)) := ((g0.trans' (Fr.of_below l0 (fun k => k = w.heap.size ∨ k = w.heap.size + 1)) (fun _ _ h => h)).setCell (p := ⟨w.heap.size, 0, none⟩) (fun _ => .inl rfl) (.slice ua0 ul0 uk0))
  have t0 : Fr (fun k => k = w.heap.size ∨ k = w.heap.size + 1) w1 (w1.setCell ⟨w.heap.size, 0, none⟩ (.slice ua0 ul0 uk0)) := ((Fr.refl (fun k => k = w.heap.size ∨ k = w.heap.size + 1) w1).setCell (p := ⟨w.heap.size, 0, none⟩) (fun _ => .inl rfl) (.slice ua0 ul0 uk0))
  have x1 : (w1.setCell ⟨w.heap.size, 0, none⟩ (.slice ua0 ul0 uk0)).heap[w.heap.size]? = some (.cells #[(.slice ua0 ul0 uk0), (.int .i64 va1), (.int .i64 va2)] 65 (0, 0)) := (heap_setCell_at (o := 0) (u := (.slice ua0 ul0 uk0)) p0)
  have y1 : (w1.setCell ⟨w.heap.size, 0, none⟩ (.slice ua0 ul0 uk0)).heap[w.heap.size + 1]? = some (.cells #[(.slice none 0 0), (.int .i64 0), (.int .i64 0)] 65 (0, 0)) := by
    rw [Below.heap_setCell _ _ _ _ (by simp)]; exact q0
  have z0' : w.heap.size + 2 ≤ (w1.setCell ⟨w.heap.size, 0, none⟩ (.slice ua0 ul0 uk0)).heap.size := Nat.le_trans (Nat.le_trans z0 l0.size) t0.size
  go_wp2
  have fin : Fr (fun k => k = w.heap.size ∨ k = w.heap.size + 1) (w1.setCell ⟨w.heap.size, 0, none⟩ (.slice ua0 ul0 uk0)) ((((w1.setCell ⟨w.heap.size, 0, none⟩ (.slice ua0 ul0 uk0)).setCell ⟨w.heap.size + 1, 0, none⟩ (.slice ua0 ul0 uk0)).setCell ⟨w.heap.size + 1, 1, none⟩ (.int .i64 va1)).setCell ⟨w.heap.size + 1, 2, none⟩ (.int .i64 va2)) := ((((Fr.refl (fun k => k = w.heap.size ∨ k = w.heap.size + 1) (w1.setCell ⟨w.heap.size, 0, none⟩ (.slice ua0 ul0 uk0))).setCell (p := ⟨w.heap.size + 1, 0, none⟩) (fun _ => .inr rfl) (.slice ua0 ul0 uk0)).setCell (p := ⟨w.heap.size + 1, 1, none⟩) (fun _ => .inr rfl) (.int .i64 va1)).setCell (p := ⟨w.heap.size + 1, 2, none⟩) (fun _ => .inr rfl) (.int .i64 va2))
  have yf : ((((w1.setCell ⟨w.heap.size, 0, none⟩ (.slice ua0 ul0 uk0)).setCell ⟨w.heap.size + 1, 0, none⟩ (.slice ua0 ul0 uk0)).setCell ⟨w.heap.size + 1, 1, none⟩ (.int .i64 va1)).setCell ⟨w.heap.size + 1, 2, none⟩ (.int .i64 va2)).heap[w.heap.size + 1]? = some (.cells #[(.slice ua0 ul0 uk0), (.int .i64 va1), (.int .i64 va2)] 65 (0, 0)) := (heap_setCell_at (o := 2) (u := (.int .i64 va2)) (heap_setCell_at (o := 1) (u := (.int .i64 va1)) (heap_setCell_at (o := 0) (u := (.slice ua0 ul0 uk0)) y1)))
  generalize ((((w1.setCell ⟨w.heap.size, 0, none⟩ (.slice ua0 ul0 uk0)).setCell ⟨w.heap.size + 1, 0, none⟩ (.slice ua0 ul0 uk0)).setCell ⟨w.heap.size + 1, 1, none⟩ (.int .i64 va1)).setCell ⟨w.heap.size + 1, 2, none⟩ (.int .i64 va2)) = WF at *
  have e0 : WF.cell? ⟨w.heap.size + 1, 0, none⟩ = some (.slice ua0 ul0 uk0) := cell_of_row _ _ 0 _ _ _ yf
  have e1 : WF.cell? ⟨w.heap.size + 1, 1, none⟩ = some (.int .i64 va1) := cell_of_row _ _ 1 _ _ _ yf
  have e2 : WF.cell? ⟨w.heap.size + 1, 2, none⟩ = some (.int .i64 va2) := cell_of_row _ _ 2 _ _ _ yf
  refine bodyPost_ret (v := .agg #[(.slice ua0 ul0 uk0), (.int .i64 va1), (.int .i64 va2)]) (by simp [results, Tryz.results39, go_sem, e0, e1, e2]) rfl ?_
  exact ⟨[(.slice ua0 ul0 uk0), (.int .i64 va1), (.int .i64 va2)], [d0, c1, c2], rfl, ⟨o0_0.keep (t0.trans fin) (fun k h1 h2 => by omega) (by omega), Owned.scalar rfl a1 b1, Owned.scalar rfl a2 b2, trivial⟩, (g1.trans fin).below (Nat.le_refl _) hS⟩
set_option maxRecDepth 100000 in
set_option maxHeartbeats 400000 in
theorem own_ownSharedLink_of (n : Nat) (h72 : OwnA Tryz.prog tab n 72 [.sl 107]) : OwnA Tryz.prog tab n 57 [.sl 107, .int .i64] := by
  intro F w vs cs hn hl ht0 hr0 hF
  obtain ⟨c0, cs0, rfl, a0, ht1⟩ := ht0.cons
  obtain ⟨v0, vs0, rfl, b0, hr1⟩ := hr0.cons
  obtain ⟨c1, cs1, rfl, a1, ht2⟩ := ht1.cons
  obtain ⟨v1, vs1, rfl, b1, hr2⟩ := hr1.cons
  obtain rfl := ht2.nil
  obtain rfl := hr2.nil
  obtain ⟨va0, vl0, vk0, rfl⟩ := Ht.slf a0 b0
  obtain ⟨va1, rfl⟩ := Ht.intf a1 b1
  simp only [nodesRow, Nat.add_zero] at hn hl
  have H72 := Lib.hid h72
  clear h72
  have HN := Lib.hid hn
  have HL := Lib.hid hl
  clear hn hl
  have hS : ∀ k, k < w.heap.size → ¬ (k = w.heap.size ∨ k = w.heap.size + 1) := fun k hk => by omega
  have g0 : Fr (fun k => k = w.heap.size ∨ k = w.heap.size + 1) w ((w.alloc (Obj.cells #[(.slice va0 vl0 vk0), (.int .i64 va1)] 82)).alloc (Obj.cells #[(.slice none 0 0), (.int .i64 0)] 82)) := ((Fr.refl _ _).alloc _).alloc _
  have s0 : ((w.alloc (Obj.cells #[(.slice va0 vl0 vk0), (.int .i64 va1)] 82)).alloc (Obj.cells #[(.slice none 0 0), (.int .i64 0)] 82)).heap.size = w.heap.size + 2 := by rw [alloc_size, alloc_size]
  have x0 : ((w.alloc (Obj.cells #[(.slice va0 vl0 vk0), (.int .i64 va1)] 82)).alloc (Obj.cells #[(.slice none 0 0), (.int .i64 0)] 82)).heap[w.heap.size]? = some (.cells #[(.slice va0 vl0 vk0), (.int .i64 va1)] 82 (0, 0)) := (Below.heap_alloc _ _ _ (by rw [alloc_size]; omega)).trans (heap_alloc_new w _)
  have y0 : ((w.alloc (Obj.cells #[(.slice va0 vl0 vk0), (.int .i64 va1)] 82)).alloc (Obj.cells #[(.slice none 0 0), (.int .i64 0)] 82)).heap[w.heap.size + 1]? = some (.cells #[(.slice none 0 0), (.int .i64 0)] 82 (0, 0)) := by
    have := heap_alloc_new (w.alloc (Obj.cells #[(.slice va0 vl0 vk0), (.int .i64 va1)] 82)) (Obj.cells #[(.slice none 0 0), (.int .i64 0)] 82); rwa [alloc_size] at this
  go_enter Tryz.func57, Tryz.ntmps57
  go_wp2_with fail
  generalize hW0 : (w.alloc (Obj.cells #[(.slice va0 vl0 vk0), (.int .i64 va1)] 82)).alloc (Obj.cells #[(.slice none 0 0), (.int .i64 0)] 82) = W0 at *
  clear hW0
  refine (H72.out F W0 [(.slice va0 vl0 vk0)] [c0] (by have := HN.out; simp only [nodesRow, Nat.add_zero]; omega) (by have := HL.out; simp only [nodesRow, Nat.add_zero]; omega) (by simp only [HtRow]; exact ⟨a0, trivial⟩) ⟨Rd.mono (rd_fr hF g0 hS) _ _ b0, trivial⟩ (fun k hk => Nat.lt_of_lt_of_le (hF k hk) g0.size)).mono ?_
  rintro e0 w1 ⟨vs0, ds0, rfl, o0, l0⟩
  have hlu0 := o0.len
  change vs0.length = 1 at hlu0
  obtain ⟨u0, ul0, rfl, hlu0_0⟩ := len_cons hlu0
  obtain rfl := len_nil hlu0_0
  obtain ⟨d0, ds0, rfl, o0_0, o0t0⟩ := o0.cons
  obtain rfl := o0t0.nil
  obtain ⟨ua0, ul0, uk0, rfl⟩ := o0_0.slf
  have z0 : w.heap.size + 2 ≤ W0.heap.size := by omega
  have p0 : w1.heap[w.heap.size]? = some (.cells #[(.slice va0 vl0 vk0), (.int .i64 va1)] 82 (0, 0)) := (l0.block _ (by omega)).trans x0
  have q0 : w1.heap[w.heap.size + 1]? = some (.cells #[(.slice none 0 0), (.int .i64 0)] 82 (0, 0)) := (l0.block _ (by omega)).trans y0
  have p0_0 : w1.cell? ⟨w.heap.size, 0, none⟩ = some (.slice va0 vl0 vk0) := cell_of_row _ _ 0 _ _ _ p0
  have q0_0 : w1.cell? ⟨w.heap.size + 1, 0, none⟩ = some (.slice none 0 0) := cell_of_row _ _ 0 _ _ _ q0
  have p0_1 : w1.cell? ⟨w.heap.size, 1, none⟩ = some (.int .i64 va1) := cell_of_row _ _ 1 _ _ _ p0
  have q0_1 : w1.cell? ⟨w.heap.size + 1, 1, none⟩ = some (.int .i64 0) := cell_of_row _ _ 1 _ _ _ q0
  have f0 : ∀ o, w1.frozen? ⟨w.heap.size, o, none⟩ = false := fun o => by simp [World.frozen?, p0]
  have f0' : ∀ o, w1.frozen? ⟨w.heap.size + 1, o, none⟩ = false := fun o => by simp [World.frozen?, q0]
  have g1 : Fr (fun k => k = w.heap.size ∨ k = w.heap.size + 1) w (w1.setCell ⟨w.heap.size, 0, none⟩ (.slice ua0 ul0 uk0)) := ((g0.trans' (Fr.of_below l0 (fun k => k = w.heap.size ∨ k = w.heap.size + 1)) (fun _ _ h => h)).setCell (p := ⟨w.heap.size, 0, none⟩) (fun _ => .inl rfl) (.slice ua0 ul0 uk0))
  have t0 : Fr (fun k => k = w.heap.size ∨ k = w.heap.size + 1) w1 (w1.setCell ⟨w.heap.size, 0, none⟩ (.slice ua0 ul0 uk0)) := ((Fr.refl (fun k => k = w.heap.size ∨ k = w.heap.size + 1) w1).setCell (p := ⟨w.heap.size, 0, none⟩) (fun _ => .inl rfl) (.slice ua0 ul0 uk0))
  have x1 : (w1.setCell ⟨w.heap.size, 0, none⟩ (.slice ua0 ul0 uk0)).heap[w.heap.size]? = some (.cells #[(.slice ua0 ul0 uk0), (.int .i64 va1)] 82 (0, 0)) := (heap_setCell_at (o := 0) (u := (.slice ua0 ul0 uk0)) p0)
  have y1 : (w1.setCell ⟨w.heap.size, 0, none⟩ (.slice ua0 ul0 uk0)).heap[w.heap.size + 1]? = some (.cells #[(.slice none 0 0), (.int .i64 0)] 82 (0, 0)) := by
    rw [Below.heap_setCell _ _ _ _ (by simp)]; exact q0
  have z0' : w.heap.size + 2 ≤ (w1.setCell ⟨w.heap.size, 0, none⟩ (.slice ua0 ul0 uk0)).heap.size := Nat.le_trans (Nat.le_trans z0 l0.size) t0.size
  go_wp2
  have fin : Fr (fun k => k = w.heap.size ∨ k = w.heap.size + 1) (w1.setCell ⟨w.heap.size, 0, none⟩ (.slice ua0 ul0 uk0)) (((w1.setCell ⟨w.heap.size, 0, none⟩ (.slice ua0 ul0 uk0)).setCell ⟨w.heap.size + 1, 0, none⟩ (.slice ua0 ul0 uk0)).setCell ⟨w.heap.size + 1, 1, none⟩ (.int .i64 va1)) := (((Fr.refl (fun k => k = w.heap.size ∨ k = w.heap.size + 1) (w1.setCell ⟨w.heap.size, 0, none⟩ (.slice ua0 ul0 uk0))).setCell (p := ⟨w.heap.size + 1, 0, none⟩) (fun _ => .inr rfl) (.slice ua0 ul0 uk0)).setCell (p := ⟨w.heap.size + 1, 1, none⟩) (fun _ => .inr rfl) (.int .i64 va1))
  have yf : (((w1.setCell ⟨w.heap.size, 0, none⟩ (.slice ua0 ul0 uk0)).setCell ⟨w.heap.size + 1, 0, none⟩ (.slice ua0 ul0 uk0)).setCell ⟨w.heap.size + 1, 1, none⟩ (.int .i64 va1)).heap[w.heap.size + 1]? = some (.cells #[(.slice ua0 ul0 uk0), (.int .i64 va1)] 82 (0, 0)) := (heap_setCell_at (o := 1) (u := (.int .i64 va1)) (heap_setCell_at (o := 0) (u := (.slice ua0 ul0 uk0)) y1))
  generalize (((w1.setCell ⟨w.heap.size, 0, none⟩ (.slice ua0 ul0 uk0)).setCell ⟨w.heap.size + 1, 0, none⟩ (.slice ua0 ul0 uk0)).setCell ⟨w.heap.size + 1, 1, none⟩ (.int .i64 va1)) = WF at *
  have e0 : WF.cell? ⟨w.heap.size + 1, 0, none⟩ = some (.slice ua0 ul0 uk0) := cell_of_row _ _ 0 _ _ _ yf
  have e1 : WF.cell? ⟨w.heap.size + 1, 1, none⟩ = some (.int .i64 va1) := cell_of_row _ _ 1 _ _ _ yf
  refine bodyPost_ret (v := .agg #[(.slice ua0 ul0 uk0), (.int .i64 va1)]) (by simp [results, Tryz.results57, go_sem, e0, e1]) rfl ?_
  exact ⟨[(.slice ua0 ul0 uk0), (.int .i64 va1)], [d0, c1], rfl, ⟨o0_0.keep (t0.trans fin) (fun k h1 h2 => by omega) (by omega), Owned.scalar rfl a1 b1, trivial⟩, (g1.trans fin).below (Nat.le_refl _) hS⟩
set_option maxRecDepth 100000 in
set_option maxHeartbeats 400000 in
theorem own_ownTree_of (n : Nat) (h98 : OwnS Tryz.prog tab n 98 107) : OwnA Tryz.prog tab n 72 [.sl 107] := by
  intro F w vs cs hn hl ht0 hr0 hF
  obtain ⟨c0, cs0, rfl, a0, ht1⟩ := ht0.cons
  obtain ⟨v0, vs0, rfl, b0, hr1⟩ := hr0.cons
  obtain rfl := ht1.nil
  obtain rfl := hr1.nil
  obtain ⟨va0, vl0, vk0, rfl⟩ := Ht.slf a0 b0
  simp only [nodesRow, Nat.add_zero] at hn hl
  have H98 := Lib.hid h98
  clear h98
  have HN := Lib.hid hn
  have HL := Lib.hid hl
  clear hn hl
  have hS : ∀ k, k < w.heap.size → ¬ (k = w.heap.size ∨ k = w.heap.size + 1) := fun k hk => by omega
  have g0 : Fr (fun k => k = w.heap.size ∨ k = w.heap.size + 1) w ((w.alloc (Obj.cells #[(.slice va0 vl0 vk0)] 24)).alloc (Obj.cells #[(.slice none 0 0)] 24)) := ((Fr.refl _ _).alloc _).alloc _
  have s0 : ((w.alloc (Obj.cells #[(.slice va0 vl0 vk0)] 24)).alloc (Obj.cells #[(.slice none 0 0)] 24)).heap.size = w.heap.size + 2 := by rw [alloc_size, alloc_size]
  have x0 : ((w.alloc (Obj.cells #[(.slice va0 vl0 vk0)] 24)).alloc (Obj.cells #[(.slice none 0 0)] 24)).heap[w.heap.size]? = some (.cells #[(.slice va0 vl0 vk0)] 24 (0, 0)) := (Below.heap_alloc _ _ _ (by rw [alloc_size]; omega)).trans (heap_alloc_new w _)
  have y0 : ((w.alloc (Obj.cells #[(.slice va0 vl0 vk0)] 24)).alloc (Obj.cells #[(.slice none 0 0)] 24)).heap[w.heap.size + 1]? = some (.cells #[(.slice none 0 0)] 24 (0, 0)) := by
    have := heap_alloc_new (w.alloc (Obj.cells #[(.slice va0 vl0 vk0)] 24)) (Obj.cells #[(.slice none 0 0)] 24); rwa [alloc_size] at this
  go_enter Tryz.func72, Tryz.ntmps72
  go_wp2_with fail
  generalize hW0 : (w.alloc (Obj.cells #[(.slice va0 vl0 vk0)] 24)).alloc (Obj.cells #[(.slice none 0 0)] 24) = W0 at *
  clear hW0
  refine (H98.out F W0 (.slice va0 vl0 vk0) c0 (by have := HN.out; omega) (by have := HL.out; omega) a0 (Rd.mono (rd_fr hF g0 hS) _ _ b0) (fun k hk => Nat.lt_of_lt_of_le (hF k hk) g0.size)).mono ?_
  rintro e0 w1 ⟨u0, d0, rfl, o0, l0⟩
  obtain ⟨ua0, ul0, uk0, rfl⟩ := o0.slf
  have z0 : w.heap.size + 2 ≤ W0.heap.size := by omega
  have p0 : w1.heap[w.heap.size]? = some (.cells #[(.slice va0 vl0 vk0)] 24 (0, 0)) := (l0.block _ (by omega)).trans x0
  have q0 : w1.heap[w.heap.size + 1]? = some (.cells #[(.slice none 0 0)] 24 (0, 0)) := (l0.block _ (by omega)).trans y0
  have p0_0 : w1.cell? ⟨w.heap.size, 0, none⟩ = some (.slice va0 vl0 vk0) := cell_of_row _ _ 0 _ _ _ p0
  have q0_0 : w1.cell? ⟨w.heap.size + 1, 0, none⟩ = some (.slice none 0 0) := cell_of_row _ _ 0 _ _ _ q0
  have f0 : ∀ o, w1.frozen? ⟨w.heap.size, o, none⟩ = false := fun o => by simp [World.frozen?, p0]
  have f0' : ∀ o, w1.frozen? ⟨w.heap.size + 1, o, none⟩ = false := fun o => by simp [World.frozen?, q0]
  have g1 : Fr (fun k => k = w.heap.size ∨ k = w.heap.size + 1) w (w1.setCell ⟨w.heap.size, 0, none⟩ (.slice ua0 ul0 uk0)) := ((g0.trans' (Fr.of_below l0 (fun k => k = w.heap.size ∨ k = w.heap.size + 1)) (fun _ _ h => h)).setCell (p := ⟨w.heap.size, 0, none⟩) (fun _ => .inl rfl) (.slice ua0 ul0 uk0))
  have t0 : Fr (fun k => k = w.heap.size ∨ k = w.heap.size + 1) w1 (w1.setCell ⟨w.heap.size, 0, none⟩ (.slice ua0 ul0 uk0)) := ((Fr.refl (fun k => k = w.heap.size ∨ k = w.heap.size + 1) w1).setCell (p := ⟨w.heap.size, 0, none⟩) (fun _ => .inl rfl) (.slice ua0 ul0 uk0))
  have x1 : (w1.setCell ⟨w.heap.size, 0, none⟩ (.slice ua0 ul0 uk0)).heap[w.heap.size]? = some (.cells #[(.slice ua0 ul0 uk0)] 24 (0, 0)) := (heap_setCell_at (o := 0) (u := (.slice ua0 ul0 uk0)) p0)
  have y1 : (w1.setCell ⟨w.heap.size, 0, none⟩ (.slice ua0 ul0 uk0)).heap[w.heap.size + 1]? = some (.cells #[(.slice none 0 0)] 24 (0, 0)) := by
    rw [Below.heap_setCell _ _ _ _ (by simp)]; exact q0
  have z0' : w.heap.size + 2 ≤ (w1.setCell ⟨w.heap.size, 0, none⟩ (.slice ua0 ul0 uk0)).heap.size := Nat.le_trans (Nat.le_trans z0 l0.size) t0.size
  go_wp2
  have fin : Fr (fun k => k = w.heap.size ∨ k = w.heap.size + 1) (w1.setCell ⟨w.heap.size, 0, none⟩ (.slice ua0 ul0 uk0)) ((w1.setCell ⟨w.heap.size, 0, none⟩ (.slice ua0 ul0 uk0)).setCell ⟨w.heap.size + 1, 0, none⟩ (.slice ua0 ul0 uk0)) := ((Fr.refl (fun k => k = w.heap.size ∨ k = w.heap.size + 1) (w1.setCell ⟨w.heap.size, 0, none⟩ (.slice ua0 ul0 uk0))).setCell (p := ⟨w.heap.size + 1, 0, none⟩) (fun _ => .inr rfl) (.slice ua0 ul0 uk0))
  have yf : ((w1.setCell ⟨w.heap.size, 0, none⟩ (.slice ua0 ul0 uk0)).setCell ⟨w.heap.size + 1, 0, none⟩ (.slice ua0 ul0 uk0)).heap[w.heap.size + 1]? = some (.cells #[(.slice ua0 ul0 uk0)] 24 (0, 0)) := (heap_setCell_at (o := 0) (u := (.slice ua0 ul0 uk0)) y1)
  generalize ((w1.setCell ⟨w.heap.size, 0, none⟩ (.slice ua0 ul0 uk0)).setCell ⟨w.heap.size + 1, 0, none⟩ (.slice ua0 ul0 uk0)) = WF at *
  have e0 : WF.cell? ⟨w.heap.size + 1, 0, none⟩ = some (.slice ua0 ul0 uk0) := cell_of_row _ _ 0 _ _ _ yf
  refine bodyPost_ret (v := .agg #[(.slice ua0 ul0 uk0)]) (by simp [results, Tryz.results72, go_sem, e0]) rfl ?_
  exact ⟨[(.slice ua0 ul0 uk0)], [d0], rfl, ⟨o0.keep (t0.trans fin) (fun k h1 h2 => by omega) (by omega), trivial⟩, (g1.trans fin).below (Nat.le_refl _) hS⟩
set_option maxRecDepth 100000 in
set_option maxHeartbeats 400000 in
theorem own_ownNodes_of (n : Nat) (h1 : OwnA Tryz.prog tab n 125 [.str, .sl 116, .int .i64, .sl 3]) : OwnS Tryz.prog tab (n + 1) 98 107 := by
  intro F w v c hn hl ht hr hF
  obtain ⟨sz, len, cap, rows, rfl⟩ := ht_sl ht
  obtain ⟨e0, he0, hsz, hht⟩ : ∃ e, CT.sl 107 = .sl e ∧ sz = (tab e).length ∧ HtRows tab (tab e) rows := by simpa only [Ht] using ht
  injection he0 with he0
  subst he0
  have hsz' : sz = 4 := hsz
  clear hsz
  subst hsz'
  obtain ⟨a, rfl, h2, h3⟩ : ∃ a, v = .slice a len cap ∧ len ≤ rows.length ∧ rows.length ≤ cap := by simp only [Rd] at hr; obtain ⟨a, h1, h2, h3, _⟩ := hr; exact ⟨a, h1, h2, h3⟩
  have hnd := nodesRows_len rows
  simp only [nodes] at hn hl
  have hc := copied_124 F w (.slice a len cap) len cap rows hr hht (by simp only [limL] at hl; omega) hF
  have hlb : len ≤ 68719476736 := by simp only [limL] at hl; omega
  have HC := Lib.hid hc
  have H1 := Lib.hid h1
  have HT := Lib.hid hht
  have HL := Lib.hid hl
  have HN := Lib.hid hn
  clear hc h1 hht hl hn
  go_enter Tryz.func98, Tryz.ntmps98
  go_wp2_with fail
  refine HC.out.mono ?_
  rintro e w1 ⟨g, rfl, hcp⟩
  have hst := OwnAt.start hcp
  clear hcp
  go_wp2
  go_loopw [3, 6, 7, 8, 9, 10, 11, 12, 13, 14, 15, 16, 17, 18, 19] (fun x3 x6 x7 x8 x9 x10 x11 x12 x13 x14 x15 x16 x17 x18 x19 wr => ∃ i : Nat, i ≤ len ∧ x3 = .int .i64 i ∧ OwnAt tab 107 4 len rows F w g i wr) (fun x3 x6 x7 x8 x9 x10 x11 x12 x13 x14 x15 x16 x17 x18 x19 _ => len - (intOf x3).toNat)
  case atStart => exact ⟨0, Nat.zero_le _, rfl, hst⟩
  case round =>
    obtain ⟨i, hi, rfl, hA⟩ := hrel
    by_cases hlt : i < len
    · obtain ⟨r, vs, hr1, hr2, hr3, hr4, hr5⟩ := hA.row h2 hlt HT.out
      have hlv : vs.length = 4 := (RdVals.length _ _ hr3).trans (HtRow.length _ _ hr2)
      obtain ⟨v0, vl0, rfl, hlv_0⟩ := len_cons hlv
      obtain ⟨v1, vl1, rfl, hlv_1⟩ := len_cons hlv_0
      obtain ⟨v2, vl2, rfl, hlv_2⟩ := len_cons hlv_1
      obtain ⟨v3, vl3, rfl, hlv_3⟩ := len_cons hlv_2
      obtain rfl := len_nil hlv_3
      have q0 : wr.cell? ⟨g, i * 4, none⟩ = some v0 := by have := hr4 0 v0 rfl; simpa only [Nat.mul_one, Nat.add_zero] using this
      have q1 : wr.cell? ⟨g, i * 4 + 1, none⟩ = some v1 := by have := hr4 1 v1 rfl; simpa only [Nat.mul_one, Nat.add_zero] using this
      have q2 : wr.cell? ⟨g, i * 4 + 2, none⟩ = some v2 := by have := hr4 2 v2 rfl; simpa only [Nat.mul_one, Nat.add_zero] using this
      have q3 : wr.cell? ⟨g, i * 4 + 3, none⟩ = some v3 := by have := hr4 3 v3 rfl; simpa only [Nat.mul_one, Nat.add_zero] using this
      have hgl : g < wr.heap.size := World.block_lt_of_cell? wr _ q0
      have hfz : ∀ o, wr.frozen? ⟨g, o, none⟩ = false := fun o => by obtain ⟨c, hb, _⟩ := hA.blk; simp [World.frozen?, hb]
      have hFr : ∀ k, F k → k < wr.heap.size := fun k hk => Nat.lt_of_lt_of_le (hF k hk) hA.bel.size
      have hc2 := H1.out F wr [v0, v1, v2, v3] r (by have := HN.out; omega) (by have := HL.out; omega) hr2 hr3 hFr
      have HC2 := Lib.hid hc2
      clear hc2
      have HFZ := Lib.hid hfz
      clear hfz
      go_wp2_with fail
      refine HC2.out.mono ?_
      rintro e w2 ⟨vs', cs', rfl, ho, hb⟩
      have hlu := ho.len
      change vs'.length = 4 at hlu
      obtain ⟨u0, ul0, rfl, hlu_0⟩ := len_cons hlu
      obtain ⟨u1, ul1, rfl, hlu_1⟩ := len_cons hlu_0
      obtain ⟨u2, ul2, rfl, hlu_2⟩ := len_cons hlu_1
      obtain ⟨u3, ul3, rfl, hlu_3⟩ := len_cons hlu_2
      obtain rfl := len_nil hlu_3
      obtain ⟨cc0, ccs0, d0, ds0, rfl, rfl, ho_0, hot0⟩ := ho.cons2
      obtain ⟨cc1, ccs1, d1, ds1, rfl, rfl, ho_1, hot1⟩ := hot0.cons2
      obtain ⟨cc2, ccs2, d2, ds2, rfl, rfl, ho_2, hot2⟩ := hot1.cons2
      obtain ⟨cc3, ccs3, d3, ds3, rfl, rfl, ho_3, hot3⟩ := hot2.cons2
      obtain ⟨ua0, rfl⟩ := ho_0.strf
      obtain ⟨ua1, ul1, uk1, rfl⟩ := ho_1.slf
      obtain ⟨ua2, rfl⟩ := ho_2.intf
      obtain ⟨ua3, ul3, uk3, rfl⟩ := ho_3.slf
      have r0 : w2.cell? ⟨g, i * 4, none⟩ = some v0 := (hb.cell (p := ⟨g, i * 4, none⟩) hgl).trans q0
      have f0 : w2.frozen? ⟨g, i * 4, none⟩ = false := (hb.frozen (p := ⟨g, i * 4, none⟩) hgl).trans (HFZ.out _)
      have r1 : w2.cell? ⟨g, i * 4 + 1, none⟩ = some v1 := (hb.cell (p := ⟨g, i * 4 + 1, none⟩) hgl).trans q1
      have f1 : w2.frozen? ⟨g, i * 4 + 1, none⟩ = false := (hb.frozen (p := ⟨g, i * 4 + 1, none⟩) hgl).trans (HFZ.out _)
      have r2 : w2.cell? ⟨g, i * 4 + 2, none⟩ = some v2 := (hb.cell (p := ⟨g, i * 4 + 2, none⟩) hgl).trans q2
      have f2 : w2.frozen? ⟨g, i * 4 + 2, none⟩ = false := (hb.frozen (p := ⟨g, i * 4 + 2, none⟩) hgl).trans (HFZ.out _)
      have r3 : w2.cell? ⟨g, i * 4 + 3, none⟩ = some v3 := (hb.cell (p := ⟨g, i * 4 + 3, none⟩) hgl).trans q3
      have f3 : w2.frozen? ⟨g, i * 4 + 3, none⟩ = false := (hb.frozen (p := ⟨g, i * 4 + 3, none⟩) hgl).trans (HFZ.out _)
      have hnx := hA.next (by rfl) h2 hlt hr1 hF ho hb
      go_wp2
      go_roundw
      case rel => exact ⟨i + 1, by omega, by go_num, hnx⟩
      case measure => simp [intOf]; omega
    · obtain rfl : i = len := by omega
      obtain ⟨c', hcd⟩ := hA.done (cap := cap) (by rfl) (by decide) h2
      have hbel := hA.bel
      go_wp2
      go_ret
      exact ⟨_, c', rfl, hcd, hbel⟩
set_option maxRecDepth 100000 in
set_option maxHeartbeats 400000 in
theorem own_ownNode_of (n : Nat) (h160 : OwnS Tryz.prog tab n 160 116) (h161 : OwnS Tryz.prog tab n 161 3) : OwnA Tryz.prog tab n 125 [.str, .sl 116, .int .i64, .sl 3] := by
  intro F w vs cs hn hl ht0 hr0 hF
  obtain ⟨c0, cs0, rfl, a0, ht1⟩ := ht0.cons
  obtain ⟨v0, vs0, rfl, b0, hr1⟩ := hr0.cons
  obtain ⟨c1, cs1, rfl, a1, ht2⟩ := ht1.cons
  obtain ⟨v1, vs1, rfl, b1, hr2⟩ := hr1.cons
  obtain ⟨c2, cs2, rfl, a2, ht3⟩ := ht2.cons
  obtain ⟨v2, vs2, rfl, b2, hr3⟩ := hr2.cons
  obtain ⟨c3, cs3, rfl, a3, ht4⟩ := ht3.cons
  obtain ⟨v3, vs3, rfl, b3, hr4⟩ := hr3.cons
  obtain rfl := ht4.nil
  obtain rfl := hr4.nil
  obtain ⟨va0, rfl⟩ := Ht.strf a0 b0
  obtain ⟨va1, vl1, vk1, rfl⟩ := Ht.slf a1 b1
  obtain ⟨va2, rfl⟩ := Ht.intf a2 b2
  obtain ⟨va3, vl3, vk3, rfl⟩ := Ht.slf a3 b3
  simp only [nodesRow, Nat.add_zero] at hn hl
  have H160 := Lib.hid h160
  clear h160
  have H161 := Lib.hid h161
  clear h161
  have HN := Lib.hid hn
  have HL := Lib.hid hl
  clear hn hl
  have hS : ∀ k, k < w.heap.size → ¬ (k = w.heap.size ∨ k = w.heap.size + 1) := fun k hk => by omega
  have g0 : Fr (fun k => k = w.heap.size ∨ k = w.heap.size + 1) w ((w.alloc (Obj.cells #[(.string va0), (.slice va1 vl1 vk1), (.int .i64 va2), (.slice va3 vl3 vk3)] 107)).alloc (Obj.cells #[(.string { data := #[] }), (.slice none 0 0), (.int .i64 0), (.slice none 0 0)] 107)) := ((Fr.refl _ _).alloc _).alloc _
  have s0 : ((w.alloc (Obj.cells #[(.string va0), (.slice va1 vl1 vk1), (.int .i64 va2), (.slice va3 vl3 vk3)] 107)).alloc (Obj.cells #[(.string { data := #[] }), (.slice none 0 0), (.int .i64 0), (.slice none 0 0)] 107)).heap.size = w.heap.size + 2 := by rw [alloc_size, alloc_size]
  have x0 : ((w.alloc (Obj.cells #[(.string va0), (.slice va1 vl1 vk1), (.int .i64 va2), (.slice va3 vl3 vk3)] 107)).alloc (Obj.cells #[(.string { data := #[] }), (.slice none 0 0), (.int .i64 0), (.slice none 0 0)] 107)).heap[w.heap.size]? = some (.cells #[(.string va0), (.slice va1 vl1 vk1), (.int .i64 va2), (.slice va3 vl3 vk3)] 107 (0, 0)) := (Below.heap_alloc _ _ _ (by rw [alloc_size]; omega)).trans (heap_alloc_new w _)
  have y0 : ((w.alloc (Obj.cells #[(.string va0), (.slice va1 vl1 vk1), (.int .i64 va2), (.slice va3 vl3 vk3)] 107)).alloc (Obj.cells #[(.string { data := #[] }), (.slice none 0 0), (.int .i64 0), (.slice none 0 0)] 107)).heap[w.heap.size + 1]? = some (.cells #[(.string { data := #[] }), (.slice none 0 0), (.int .i64 0), (.slice none 0 0)] 107 (0, 0)) := by
    have := heap_alloc_new (w.alloc (Obj.cells #[(.string va0), (.slice va1 vl1 vk1), (.int .i64 va2), (.slice va3 vl3 vk3)] 107)) (Obj.cells #[(.string { data := #[] }), (.slice none 0 0), (.int .i64 0), (.slice none 0 0)] 107); rwa [alloc_size] at this
  go_enter Tryz.func125, Tryz.ntmps125
  go_wp2_with fail
  generalize hW0 : (w.alloc (Obj.cells #[(.string va0), (.slice va1 vl1 vk1), (.int .i64 va2), (.slice va3 vl3 vk3)] 107)).alloc (Obj.cells #[(.string { data := #[] }), (.slice none 0 0), (.int .i64 0), (.slice none 0 0)] 107) = W0 at *
  clear hW0
  refine (H160.out F W0 (.slice va1 vl1 vk1) c1 (by have := HN.out; omega) (by have := HL.out; omega) a1 (Rd.mono (rd_fr hF g0 hS) _ _ b1) (fun k hk => Nat.lt_of_lt_of_le (hF k hk) g0.size)).mono ?_
  rintro e0 w1 ⟨u1, d1, rfl, o0, l0⟩
  obtain ⟨ua1, ul1, uk1, rfl⟩ := o0.slf
  have z0 : w.heap.size + 2 ≤ W0.heap.size := by omega
  have p0 : w1.heap[w.heap.size]? = some (.cells #[(.string va0), (.slice va1 vl1 vk1), (.int .i64 va2), (.slice va3 vl3 vk3)] 107 (0, 0)) := (l0.block _ (by omega)).trans x0
  have q0 : w1.heap[w.heap.size + 1]? = some (.cells #[(.string { data := #[] }), (.slice none 0 0), (.int .i64 0), (.slice none 0 0)] 107 (0, 0)) := (l0.block _ (by omega)).trans y0
  have p0_0 : w1.cell? ⟨w.heap.size, 0, none⟩ = some (.string va0) := cell_of_row _ _ 0 _ _ _ p0
  have q0_0 : w1.cell? ⟨w.heap.size + 1, 0, none⟩ = some (.string { data := #[] }) := cell_of_row _ _ 0 _ _ _ q0
  have p0_1 : w1.cell? ⟨w.heap.size, 1, none⟩ = some (.slice va1 vl1 vk1) := cell_of_row _ _ 1 _ _ _ p0
  have q0_1 : w1.cell? ⟨w.heap.size + 1, 1, none⟩ = some (.slice none 0 0) := cell_of_row _ _ 1 _ _ _ q0
  have p0_2 : w1.cell? ⟨w.heap.size, 2, none⟩ = some (.int .i64 va2) := cell_of_row _ _ 2 _ _ _ p0
  have q0_2 : w1.cell? ⟨w.heap.size + 1, 2, none⟩ = some (.int .i64 0) := cell_of_row _ _ 2 _ _ _ q0
  have p0_3 : w1.cell? ⟨w.heap.size, 3, none⟩ = some (.slice va3 vl3 vk3) := cell_of_row _ _ 3 _ _ _ p0
  have q0_3 : w1.cell? ⟨w.heap.size + 1, 3, none⟩ = some (.slice none 0 0) := cell_of_row _ _ 3 _ _ _ q0
  have f0 : ∀ o, w1.frozen? ⟨w.heap.size, o, none⟩ = false := fun o => by simp [World.frozen?, p0]
  have f0' : ∀ o, w1.frozen? ⟨w.heap.size + 1, o, none⟩ = false := fun o => by simp [World.frozen?, q0]
  have g1 : Fr (fun k => k = w.heap.size ∨ k = w.heap.size + 1) w (w1.setCell ⟨w.heap.size, 1, none⟩ (.slice ua1 ul1 uk1)) := ((g0.trans' (Fr.of_below l0 (fun k => k = w.heap.size ∨ k = w.heap.size + 1)) (fun _ _ h => h)).setCell (p := ⟨w.heap.size, 1, none⟩) (fun _ => .inl rfl) (.slice ua1 ul1 uk1))
  have t0 : Fr (fun k => k = w.heap.size ∨ k = w.heap.size + 1) w1 (w1.setCell ⟨w.heap.size, 1, none⟩ (.slice ua1 ul1 uk1)) := ((Fr.refl (fun k => k = w.heap.size ∨ k = w.heap.size + 1) w1).setCell (p := ⟨w.heap.size, 1, none⟩) (fun _ => .inl rfl) (.slice ua1 ul1 uk1))
  have x1 : (w1.setCell ⟨w.heap.size, 1, none⟩ (.slice ua1 ul1 uk1)).heap[w.heap.size]? = some (.cells #[(.string va0), (.slice ua1 ul1 uk1), (.int .i64 va2), (.slice va3 vl3 vk3)] 107 (0, 0)) := (heap_setCell_at (o := 1) (u := (.slice ua1 ul1 uk1)) p0)
  have y1 : (w1.setCell ⟨w.heap.size, 1, none⟩ (.slice ua1 ul1 uk1)).heap[w.heap.size + 1]? = some (.cells #[(.string { data := #[] }), (.slice none 0 0), (.int .i64 0), (.slice none 0 0)] 107 (0, 0)) := by
    rw [Below.heap_setCell _ _ _ _ (by simp)]; exact q0
  have z0' : w.heap.size + 2 ≤ (w1.setCell ⟨w.heap.size, 1, none⟩ (.slice ua1 ul1 uk1)).heap.size := Nat.le_trans (Nat.le_trans z0 l0.size) t0.size
  go_wp2_with fail
  generalize hW1 : (w1.setCell ⟨w.heap.size, 1, none⟩ (.slice ua1 ul1 uk1)) = W1 at *
  clear hW1 p0_0 q0_0 p0_1 q0_1 p0_2 q0_2 p0_3 q0_3 f0 f0'
  refine (H161.out F W1 (.slice va3 vl3 vk3) c3 (by have := HN.out; omega) (by have := HL.out; omega) a3 (Rd.mono (rd_fr hF g1 hS) _ _ b3) (fun k hk => Nat.lt_of_lt_of_le (hF k hk) g1.size)).mono ?_
  rintro e1 w2 ⟨u3, d3, rfl, o1, l1⟩
  obtain ⟨ua3, ul3, uk3, rfl⟩ := o1.slf
  have z1 : w.heap.size + 2 ≤ W1.heap.size := by omega
  have p1 : w2.heap[w.heap.size]? = some (.cells #[(.string va0), (.slice ua1 ul1 uk1), (.int .i64 va2), (.slice va3 vl3 vk3)] 107 (0, 0)) := (l1.block _ (by omega)).trans x1
  have q1 : w2.heap[w.heap.size + 1]? = some (.cells #[(.string { data := #[] }), (.slice none 0 0), (.int .i64 0), (.slice none 0 0)] 107 (0, 0)) := (l1.block _ (by omega)).trans y1
  have p1_0 : w2.cell? ⟨w.heap.size, 0, none⟩ = some (.string va0) := cell_of_row _ _ 0 _ _ _ p1
  have q1_0 : w2.cell? ⟨w.heap.size + 1, 0, none⟩ = some (.string { data := #[] }) := cell_of_row _ _ 0 _ _ _ q1
  have p1_1 : w2.cell? ⟨w.heap.size, 1, none⟩ = some (.slice ua1 ul1 uk1) := cell_of_row _ _ 1 _ _ _ p1
  have q1_1 : w2.cell? ⟨w.heap.size + 1, 1, none⟩ = some (.slice none 0 0) := cell_of_row _ _ 1 _ _ _ q1
  have p1_2 : w2.cell? ⟨w.heap.size, 2, none⟩ = some (.int .i64 va2) := cell_of_row _ _ 2 _ _ _ p1
  have q1_2 : w2.cell? ⟨w.heap.size + 1, 2, none⟩ = some (.int .i64 0) := cell_of_row _ _ 2 _ _ _ q1
  have p1_3 : w2.cell? ⟨w.heap.size, 3, none⟩ = some (.slice va3 vl3 vk3) := cell_of_row _ _ 3 _ _ _ p1
  have q1_3 : w2.cell? ⟨w.heap.size + 1, 3, none⟩ = some (.slice none 0 0) := cell_of_row _ _ 3 _ _ _ q1
  have f1 : ∀ o, w2.frozen? ⟨w.heap.size, o, none⟩ = false := fun o => by simp [World.frozen?, p1]
  have f1' : ∀ o, w2.frozen? ⟨w.heap.size + 1, o, none⟩ = false := fun o => by simp [World.frozen?, q1]
  have g2 : Fr (fun k => k = w.heap.size ∨ k = w.heap.size + 1) w (w2.setCell ⟨w.heap.size, 3, none⟩ (.slice ua3 ul3 uk3)) := ((g1.trans' (Fr.of_below l1 (fun k => k = w.heap.size ∨ k = w.heap.size + 1)) (fun _ _ h => h)).setCell (p := ⟨w.heap.size, 3, none⟩) (fun _ => .inl rfl) (.slice ua3 ul3 uk3))
  have t1 : Fr (fun k => k = w.heap.size ∨ k = w.heap.size + 1) w2 (w2.setCell ⟨w.heap.size, 3, none⟩ (.slice ua3 ul3 uk3)) := ((Fr.refl (fun k => k = w.heap.size ∨ k = w.heap.size + 1) w2).setCell (p := ⟨w.heap.size, 3, none⟩) (fun _ => .inl rfl) (.slice ua3 ul3 uk3))
  have x2 : (w2.setCell ⟨w.heap.size, 3, none⟩ (.slice ua3 ul3 uk3)).heap[w.heap.size]? = some (.cells #[(.string va0), (.slice ua1 ul1 uk1), (.int .i64 va2), (.slice ua3 ul3 uk3)] 107 (0, 0)) := (heap_setCell_at (o := 3) (u := (.slice ua3 ul3 uk3)) p1)
  have y2 : (w2.setCell ⟨w.heap.size, 3, none⟩ (.slice ua3 ul3 uk3)).heap[w.heap.size + 1]? = some (.cells #[(.string { data := #[] }), (.slice none 0 0), (.int .i64 0), (.slice none 0 0)] 107 (0, 0)) := by
    rw [Below.heap_setCell _ _ _ _ (by simp)]; exact q1
  have z1' : w.heap.size + 2 ≤ (w2.setCell ⟨w.heap.size, 3, none⟩ (.slice ua3 ul3 uk3)).heap.size := Nat.le_trans (Nat.le_trans z1 l1.size) t1.size
  go_wp2
  have fin : Fr (fun k => k = w.heap.size ∨ k = w.heap.size + 1) (w2.setCell ⟨w.heap.size, 3, none⟩ (.slice ua3 ul3 uk3)) (((((w2.setCell ⟨w.heap.size, 3, none⟩ (.slice ua3 ul3 uk3)).setCell ⟨w.heap.size + 1, 0, none⟩ (.string va0)).setCell ⟨w.heap.size + 1, 1, none⟩ (.slice ua1 ul1 uk1)).setCell ⟨w.heap.size + 1, 2, none⟩ (.int .i64 va2)).setCell ⟨w.heap.size + 1, 3, none⟩ (.slice ua3 ul3 uk3)) := (((((Fr.refl (fun k => k = w.heap.size ∨ k = w.heap.size + 1) (w2.setCell ⟨w.heap.size, 3, none⟩ (.slice ua3 ul3 uk3))).setCell (p := ⟨w.heap.size + 1, 0, none⟩) (fun _ => .inr rfl) (.string va0)).setCell (p := ⟨w.heap.size + 1, 1, none⟩) (fun _ => .inr rfl) (.slice ua1 ul1 uk1)).setCell (p := ⟨w.heap.size + 1, 2, none⟩) (fun _ => .inr rfl) (.int .i64 va2)).setCell (p := ⟨w.heap.size + 1, 3, none⟩) (fun _ => .inr rfl) (.slice ua3 ul3 uk3))
  have yf : (((((w2.setCell ⟨w.heap.size, 3, none⟩ (.slice ua3 ul3 uk3)).setCell ⟨w.heap.size + 1, 0, none⟩ (.string va0)).setCell ⟨w.heap.size + 1, 1, none⟩ (.slice ua1 ul1 uk1)).setCell ⟨w.heap.size + 1, 2, none⟩ (.int .i64 va2)).setCell ⟨w.heap.size + 1, 3, none⟩ (.slice ua3 ul3 uk3)).heap[w.heap.size + 1]? = some (.cells #[(.string va0), (.slice ua1 ul1 uk1), (.int .i64 va2), (.slice ua3 ul3 uk3)] 107 (0, 0)) := (heap_setCell_at (o := 3) (u := (.slice ua3 ul3 uk3)) (heap_setCell_at (o := 2) (u := (.int .i64 va2)) (heap_setCell_at (o := 1) (u := (.slice ua1 ul1 uk1)) (heap_setCell_at (o := 0) (u := (.string va0)) y2))))
  generalize (((((w2.setCell ⟨w.heap.size, 3, none⟩ (.slice ua3 ul3 uk3)).setCell ⟨w.heap.size + 1, 0, none⟩ (.string va0)).setCell ⟨w.heap.size + 1, 1, none⟩ (.slice ua1 ul1 uk1)).setCell ⟨w.heap.size + 1, 2, none⟩ (.int .i64 va2)).setCell ⟨w.heap.size + 1, 3, none⟩ (.slice ua3 ul3 uk3)) = WF at *
  have e0 : WF.cell? ⟨w.heap.size + 1, 0, none⟩ = some (.string va0) := cell_of_row _ _ 0 _ _ _ yf
  have e1 : WF.cell? ⟨w.heap.size + 1, 1, none⟩ = some (.slice ua1 ul1 uk1) := cell_of_row _ _ 1 _ _ _ yf
  have e2 : WF.cell? ⟨w.heap.size + 1, 2, none⟩ = some (.int .i64 va2) := cell_of_row _ _ 2 _ _ _ yf
  have e3 : WF.cell? ⟨w.heap.size + 1, 3, none⟩ = some (.slice ua3 ul3 uk3) := cell_of_row _ _ 3 _ _ _ yf
  refine bodyPost_ret (v := .agg #[(.string va0), (.slice ua1 ul1 uk1), (.int .i64 va2), (.slice ua3 ul3 uk3)]) (by simp [results, Tryz.results125, go_sem, e0, e1, e2, e3]) rfl ?_
  exact ⟨[(.string va0), (.slice ua1 ul1 uk1), (.int .i64 va2), (.slice ua3 ul3 uk3)], [c0, d1, c2, d3], rfl, ⟨Owned.scalar rfl a0 b0, o0.keep (((t0.trans' (Fr.of_below l1 (fun k => k = w.heap.size ∨ k = w.heap.size + 1)) (fun _ _ h => h)).trans t1).trans fin) (fun k h1 h2 => by omega) (by omega), Owned.scalar rfl a2 b2, o1.keep (t1.trans fin) (fun k h1 h2 => by omega) (by omega), trivial⟩, (g2.trans fin).below (Nat.le_refl _) hS⟩
theorem own_c160 (n : Nat) : OwnS Tryz.prog tab n 160 116 := copied_ownS n copied_160 rfl (by decide) rfl
theorem own_c161 (n : Nat) : OwnS Tryz.prog tab n 161 3 := copied_ownS n copied_161 rfl (by decide) rfl
theorem own_ownNode (n : Nat) : OwnA Tryz.prog tab n 125 [.str, .sl 116, .int .i64, .sl 3] := own_ownNode_of n (own_c160 n) (own_c161 n)
theorem own_ownNodes (n : Nat) : OwnS Tryz.prog tab n 98 107 := (own_ownNodes_of n (own_ownNode n)).le (by omega)
theorem own_ownTree (n : Nat) : OwnA Tryz.prog tab n 72 [.sl 107] := own_ownTree_of n (own_ownNodes n)
theorem own_ownSharedMutate (n : Nat) : OwnA Tryz.prog tab n 8 [.sl 107, .int .i64, .int .i64, .int .i64] := own_ownSharedMutate_of n (own_ownTree n)
theorem own_ownSharedAttrs (n : Nat) : OwnA Tryz.prog tab n 22 [.sl 107, .int .i64, .str, .str, .str] := own_ownSharedAttrs_of n (own_ownTree n)
theorem own_ownSharedOrder (n : Nat) : OwnA Tryz.prog tab n 39 [.sl 107, .int .i64, .int .i64] := own_ownSharedOrder_of n (own_ownTree n)
theorem own_ownSharedLink (n : Nat) : OwnA Tryz.prog tab n 57 [.sl 107, .int .i64] := own_ownSharedLink_of n (own_ownTree n)
end Go.Proofs.YtomnkglnbmnmpaaGreatDoor
