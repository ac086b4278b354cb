/- The eye of a bool. -/
import Derived.Test.YtgkamgijnhbcbaaGreatDoorSeeLeaf
import Derived.Test.YtgkamgijnhbcbaaGreatDoorEye
import Derived.Test.YtgkamgijnhbcbaaGreatDoorClone
import Derived.WalkKit
import Derived.WalkSpells
import Derived.WalkLawsBesides
import Derived.Deep.RegionLaw
import Derived.Deep.AppendLies
import Derived.StillTailTactics
namespace Go.Proofs.YtgkamgijnhbcbaaGreatDoor
open Go.RowKit Go.Vt Go.Proofs
set_option maxRecDepth 100000 in
set_option maxHeartbeats 1000000 in
theorem yes_ok (tab : Nat → List CT) (n : Nat) : SeeOK Tryz.prog 3 9 tab n 61 [.bool] := by
  intro mk rm cs F w be oe B b o ns ss at_ hn h
  obtain ⟨m, rfl⟩ := h.ht.bool1
  obtain ⟨nv, sv, hv⟩ := h.eye
  have hx := rd_bool h.rd
  obtain ⟨i0, hi0, hz0, hz1, hz2⟩ := info_parts infoI
  have hB := h.bs
  have hbe := hv.lt
  have hb := h.size
  have hbF := h.fb b h.f
  have hnr := hv.nameN
  have n1 : nv.ownBlock ≠ some be := fun e => by have := hnr be e; omega
  have hbh : be < w.heap.size := by omega
  obtain ⟨k1, k2, k3⟩ := lim_ok h.ln (by simp [nodesRow, nodes])
  have hla := h.la
  have ha0 := h.a0
  have c2 := hv.cell2
  have c0w := hv.cell0
  have f0w := hv.frozen oe
  have hne' : be ≠ b := fun e => hbF.2 e.symm
  have hne : b ≠ be := hbF.2
  simp only [nodesRow, nodes, lim] at hla
  cases mk with
  | false =>
    cases m with
    | false =>
      have hnf := h.nf rfl
      simp only [RfRow, and_true] at hnf
      have fb := hnf.1
      have hsame : (w.setCell ⟨b, o, none⟩ (.bool false)) = w := setCell_same hx (cell_block hx)
      have g1 : SeeChg false F B be oe w (w.setCell ⟨b, o, none⟩ (.bool false)) := by rw [hsame]; exact SeeChg.refl (by obtain ⟨c, e, hb, _⟩ := hv.blk; exact ⟨c, e, hb⟩) (by simp)
      have g2 : EyeV 3 9 (w.setCell ⟨b, o, none⟩ (.bool false)) be oe B nv sv ns ss false at_ rm := by rw [hsame]; exact hv
      have g3 : (w.setCell ⟨b, o, none⟩ (.bool false)).cell? ⟨b, o, none⟩ = some (.bool false) := by rw [hsame]; exact hx
      clear hsame hnf
      have hrow := g2.rowN
      have c0 : (w.setCell ⟨b, o, none⟩ (.bool false)).drew.cell? ⟨be, oe, none⟩ = some nv := g2.cell0
      have f0 : (w.setCell ⟨b, o, none⟩ (.bool false)).drew.frozen? ⟨be, oe, none⟩ = false := g2.frozen oe
      have g3' : (w.setCell ⟨b, o, none⟩ (.bool false)).drew.cell? ⟨b, o, none⟩ = some (.bool false) := g3
      have hbh' : be < (w.setCell ⟨b, o, none⟩ (.bool false)).heap.size := by rw [setCell_size]; exact hbh
      have hlt' : be < ((w.setCell ⟨b, o, none⟩ (.bool false)).alloc (Obj.cells #[Value.int IntKind.i64 0] 3)).drew.heap.size := by show be < ((w.setCell ⟨b, o, none⟩ (.bool false)).alloc _).heap.size; rw [alloc_size]; omega
      have hBs : B ≤ ((w.setCell ⟨b, o, none⟩ (.bool false)).alloc (Obj.cells #[Value.int IntKind.i64 0] 3)).drew.heap.size := by show B ≤ ((w.setCell ⟨b, o, none⟩ (.bool false)).alloc _).heap.size; rw [alloc_size, setCell_size]; omega
      have hrow' : ((w.setCell ⟨b, o, none⟩ (.bool false)).alloc (Obj.cells #[Value.int IntKind.i64 0] 3)).drew.ownsRow B 3 1 nv ns.length (ns.map (Value.int .i64)) := (hrow.alloc _).drew
      have hnw : ((w.setCell ⟨b, o, none⟩ (.bool false)).alloc (Obj.cells #[Value.int IntKind.i64 0] 3)).drew.heap[w.heap.size]? = some (.cells #[Value.int IntKind.i64 0] 3 (0, 0)) := by
        have := heap_alloc_new (w.setCell ⟨b, o, none⟩ (.bool false)) (Obj.cells #[Value.int IntKind.i64 0] 3)
        rw [setCell_size] at this
        exact this
      go_enter Tryz.func61, Tryz.ntmps61
      go_wp2_with fail
      go_still_tail 10, (by kernel_rfl)
      change wpList _ _ _ _ _ w.drew
      go_wp2_with (at_builtin; go_must (refine wpList_append_lies _ rfl _ _ 34 rfl B 3 i0 _ 1 8 Tryz.underlying34 hi0 hz0 hz1 hz2 rfl Nat.one_pos nv _ _ rfl hrow' _ 1 1 [.int .i64 0] rfl rfl (World.news_of_block hnw) (by simp [Value.oneCell']) Nat.one_pos k1 k2 hBs _ rfl ?_; intro gg cap w1 hown1 hgrow hat hlt; have hc1 : w1.cell? ⟨be, oe, none⟩ = some nv := (hgrow.cell_far ⟨be, oe, none⟩ hlt' (Ne.symm n1)).trans ((World.cell?_alloc_past _ _ _ hbh').trans c0); have hfz : w1.frozen? ⟨be, oe, none⟩ = false := (hgrow.frozen_far ⟨be, oe, none⟩ hlt' (Ne.symm n1)).trans ((frozen?_alloc_cells _ _ _ _).trans f0)))
      all_goals
        go_end0
        exact ⟨rfl, _, _, _, seen_push e12 g1 g2 hgrow hown1 ⟨Int.le_refl _, by simp only [nodesRow, nodes]; omega⟩ (by simp only [nodesRow, nodes]; omega) hB h.fb (fun _ => ⟨rfl, rfl⟩) (by simp)⟩
    | true =>
      have hnf := h.nf rfl
      simp only [RfRow, and_true] at hnf
      have fb := hnf.1
      have hsame : (w.setCell ⟨b, o, none⟩ (.bool true)) = w := setCell_same hx (cell_block hx)
      have g1 : SeeChg false F B be oe w (w.setCell ⟨b, o, none⟩ (.bool true)) := by rw [hsame]; exact SeeChg.refl (by obtain ⟨c, e, hb, _⟩ := hv.blk; exact ⟨c, e, hb⟩) (by simp)
      have g2 : EyeV 3 9 (w.setCell ⟨b, o, none⟩ (.bool true)) be oe B nv sv ns ss false at_ rm := by rw [hsame]; exact hv
      have g3 : (w.setCell ⟨b, o, none⟩ (.bool true)).cell? ⟨b, o, none⟩ = some (.bool true) := by rw [hsame]; exact hx
      clear hsame hnf
      have hrow := g2.rowN
      have c0 : (w.setCell ⟨b, o, none⟩ (.bool true)).drew.cell? ⟨be, oe, none⟩ = some nv := g2.cell0
      have f0 : (w.setCell ⟨b, o, none⟩ (.bool true)).drew.frozen? ⟨be, oe, none⟩ = false := g2.frozen oe
      have g3' : (w.setCell ⟨b, o, none⟩ (.bool true)).drew.cell? ⟨b, o, none⟩ = some (.bool true) := g3
      have hbh' : be < (w.setCell ⟨b, o, none⟩ (.bool true)).heap.size := by rw [setCell_size]; exact hbh
      have hlt' : be < ((w.setCell ⟨b, o, none⟩ (.bool true)).alloc (Obj.cells #[Value.int IntKind.i64 1] 3)).drew.heap.size := by show be < ((w.setCell ⟨b, o, none⟩ (.bool true)).alloc _).heap.size; rw [alloc_size]; omega
      have hBs : B ≤ ((w.setCell ⟨b, o, none⟩ (.bool true)).alloc (Obj.cells #[Value.int IntKind.i64 1] 3)).drew.heap.size := by show B ≤ ((w.setCell ⟨b, o, none⟩ (.bool true)).alloc _).heap.size; rw [alloc_size, setCell_size]; omega
      have hrow' : ((w.setCell ⟨b, o, none⟩ (.bool true)).alloc (Obj.cells #[Value.int IntKind.i64 1] 3)).drew.ownsRow B 3 1 nv ns.length (ns.map (Value.int .i64)) := (hrow.alloc _).drew
      have hnw : ((w.setCell ⟨b, o, none⟩ (.bool true)).alloc (Obj.cells #[Value.int IntKind.i64 1] 3)).drew.heap[w.heap.size]? = some (.cells #[Value.int IntKind.i64 1] 3 (0, 0)) := by
        have := heap_alloc_new (w.setCell ⟨b, o, none⟩ (.bool true)) (Obj.cells #[Value.int IntKind.i64 1] 3)
        rw [setCell_size] at this
        exact this
      go_enter Tryz.func61, Tryz.ntmps61
      go_wp2_with fail
      go_still_tail 10, (by kernel_rfl)
      change wpList _ _ _ _ _ w.drew
      go_wp2_with (at_builtin; go_must (refine wpList_append_lies _ rfl _ _ 34 rfl B 3 i0 _ 1 8 Tryz.underlying34 hi0 hz0 hz1 hz2 rfl Nat.one_pos nv _ _ rfl hrow' _ 1 1 [.int .i64 1] rfl rfl (World.news_of_block hnw) (by simp [Value.oneCell']) Nat.one_pos k1 k2 hBs _ rfl ?_; intro gg cap w1 hown1 hgrow hat hlt; have hc1 : w1.cell? ⟨be, oe, none⟩ = some nv := (hgrow.cell_far ⟨be, oe, none⟩ hlt' (Ne.symm n1)).trans ((World.cell?_alloc_past _ _ _ hbh').trans c0); have hfz : w1.frozen? ⟨be, oe, none⟩ = false := (hgrow.frozen_far ⟨be, oe, none⟩ hlt' (Ne.symm n1)).trans ((frozen?_alloc_cells _ _ _ _).trans f0)))
      all_goals
        go_end0
        exact ⟨rfl, _, _, _, seen_push e12 g1 g2 hgrow hown1 ⟨Int.le_refl _, by simp only [nodesRow, nodes]; omega⟩ (by simp only [nodesRow, nodes]; omega) hB h.fb (fun _ => ⟨rfl, rfl⟩) (by simp)⟩
  | true =>
    cases m with
    | false =>
      have hu := h.uf rfl
      have fb : w.frozen? ⟨b, o, none⟩ = false := by obtain ⟨c, e, hb⟩ := hu b h.f; simp [World.frozen?, hb]
      obtain ⟨g1, g2, g3, g4⟩ := SeeChg.mark0 (u := .bool true) (o := o) hv h.fb h.f hu hx (.inr ⟨_, rfl⟩)
      have hrow := g2.rowN
      have c0 : (w.setCell ⟨b, o, none⟩ (.bool true)).drew.cell? ⟨be, oe, none⟩ = some nv := g2.cell0
      have f0 : (w.setCell ⟨b, o, none⟩ (.bool true)).drew.frozen? ⟨be, oe, none⟩ = false := g2.frozen oe
      have g3' : (w.setCell ⟨b, o, none⟩ (.bool true)).drew.cell? ⟨b, o, none⟩ = some (.bool true) := g3
      have hbh' : be < (w.setCell ⟨b, o, none⟩ (.bool true)).heap.size := by rw [setCell_size]; exact hbh
      have hlt' : be < ((w.setCell ⟨b, o, none⟩ (.bool true)).alloc (Obj.cells #[Value.int IntKind.i64 1] 3)).drew.heap.size := by show be < ((w.setCell ⟨b, o, none⟩ (.bool true)).alloc _).heap.size; rw [alloc_size]; omega
      have hBs : B ≤ ((w.setCell ⟨b, o, none⟩ (.bool true)).alloc (Obj.cells #[Value.int IntKind.i64 1] 3)).drew.heap.size := by show B ≤ ((w.setCell ⟨b, o, none⟩ (.bool true)).alloc _).heap.size; rw [alloc_size, setCell_size]; omega
      have hrow' : ((w.setCell ⟨b, o, none⟩ (.bool true)).alloc (Obj.cells #[Value.int IntKind.i64 1] 3)).drew.ownsRow B 3 1 nv ns.length (ns.map (Value.int .i64)) := (hrow.alloc _).drew
      have hnw : ((w.setCell ⟨b, o, none⟩ (.bool true)).alloc (Obj.cells #[Value.int IntKind.i64 1] 3)).drew.heap[w.heap.size]? = some (.cells #[Value.int IntKind.i64 1] 3 (0, 0)) := by
        have := heap_alloc_new (w.setCell ⟨b, o, none⟩ (.bool true)) (Obj.cells #[Value.int IntKind.i64 1] 3)
        rw [setCell_size] at this
        exact this
      go_enter Tryz.func61, Tryz.ntmps61
      go_wp2_with fail
      go_still_tail 10, (by kernel_rfl)
      change wpList _ _ _ _ _ w.drew
      go_wp2_with (at_builtin; go_must (refine wpList_append_lies _ rfl _ _ 34 rfl B 3 i0 _ 1 8 Tryz.underlying34 hi0 hz0 hz1 hz2 rfl Nat.one_pos nv _ _ rfl hrow' _ 1 1 [.int .i64 1] rfl rfl (World.news_of_block hnw) (by simp [Value.oneCell']) Nat.one_pos k1 k2 hBs _ rfl ?_; intro gg cap w1 hown1 hgrow hat hlt; have hc1 : w1.cell? ⟨be, oe, none⟩ = some nv := (hgrow.cell_far ⟨be, oe, none⟩ hlt' (Ne.symm n1)).trans ((World.cell?_alloc_past _ _ _ hbh').trans c0); have hfz : w1.frozen? ⟨be, oe, none⟩ = false := (hgrow.frozen_far ⟨be, oe, none⟩ hlt' (Ne.symm n1)).trans ((frozen?_alloc_cells _ _ _ _).trans f0)))
      all_goals
        go_end0
        exact ⟨rfl, _, _, _, seen_push e12 g1 g2 hgrow hown1 ⟨Int.le_refl _, by simp only [nodesRow, nodes]; omega⟩ (by simp only [nodesRow, nodes]; omega) hB h.fb (by simp) (fun _ => g4)⟩
    | true =>
      have hu := h.uf rfl
      have fb : w.frozen? ⟨b, o, none⟩ = false := by obtain ⟨c, e, hb⟩ := hu b h.f; simp [World.frozen?, hb]
      obtain ⟨g1, g2, g3, g4⟩ := SeeChg.mark0 (u := .bool false) (o := o) hv h.fb h.f hu hx (.inr ⟨_, rfl⟩)
      have hrow := g2.rowN
      have c0 : (w.setCell ⟨b, o, none⟩ (.bool false)).drew.cell? ⟨be, oe, none⟩ = some nv := g2.cell0
      have f0 : (w.setCell ⟨b, o, none⟩ (.bool false)).drew.frozen? ⟨be, oe, none⟩ = false := g2.frozen oe
      have g3' : (w.setCell ⟨b, o, none⟩ (.bool false)).drew.cell? ⟨b, o, none⟩ = some (.bool false) := g3
      have hbh' : be < (w.setCell ⟨b, o, none⟩ (.bool false)).heap.size := by rw [setCell_size]; exact hbh
      have hlt' : be < ((w.setCell ⟨b, o, none⟩ (.bool false)).alloc (Obj.cells #[Value.int IntKind.i64 0] 3)).drew.heap.size := by show be < ((w.setCell ⟨b, o, none⟩ (.bool false)).alloc _).heap.size; rw [alloc_size]; omega
      have hBs : B ≤ ((w.setCell ⟨b, o, none⟩ (.bool false)).alloc (Obj.cells #[Value.int IntKind.i64 0] 3)).drew.heap.size := by show B ≤ ((w.setCell ⟨b, o, none⟩ (.bool false)).alloc _).heap.size; rw [alloc_size, setCell_size]; omega
      have hrow' : ((w.setCell ⟨b, o, none⟩ (.bool false)).alloc (Obj.cells #[Value.int IntKind.i64 0] 3)).drew.ownsRow B 3 1 nv ns.length (ns.map (Value.int .i64)) := (hrow.alloc _).drew
      have hnw : ((w.setCell ⟨b, o, none⟩ (.bool false)).alloc (Obj.cells #[Value.int IntKind.i64 0] 3)).drew.heap[w.heap.size]? = some (.cells #[Value.int IntKind.i64 0] 3 (0, 0)) := by
        have := heap_alloc_new (w.setCell ⟨b, o, none⟩ (.bool false)) (Obj.cells #[Value.int IntKind.i64 0] 3)
        rw [setCell_size] at this
        exact this
      go_enter Tryz.func61, Tryz.ntmps61
      go_wp2_with fail
      go_still_tail 10, (by kernel_rfl)
      change wpList _ _ _ _ _ w.drew
      go_wp2_with (at_builtin; go_must (refine wpList_append_lies _ rfl _ _ 34 rfl B 3 i0 _ 1 8 Tryz.underlying34 hi0 hz0 hz1 hz2 rfl Nat.one_pos nv _ _ rfl hrow' _ 1 1 [.int .i64 0] rfl rfl (World.news_of_block hnw) (by simp [Value.oneCell']) Nat.one_pos k1 k2 hBs _ rfl ?_; intro gg cap w1 hown1 hgrow hat hlt; have hc1 : w1.cell? ⟨be, oe, none⟩ = some nv := (hgrow.cell_far ⟨be, oe, none⟩ hlt' (Ne.symm n1)).trans ((World.cell?_alloc_past _ _ _ hbh').trans c0); have hfz : w1.frozen? ⟨be, oe, none⟩ = false := (hgrow.frozen_far ⟨be, oe, none⟩ hlt' (Ne.symm n1)).trans ((frozen?_alloc_cells _ _ _ _).trans f0)))
      all_goals
        go_end0
        exact ⟨rfl, _, _, _, seen_push e12 g1 g2 hgrow hown1 ⟨Int.le_refl _, by simp only [nodesRow, nodes]; omega⟩ (by simp only [nodesRow, nodes]; omega) hB h.fb (by simp) (fun _ => g4)⟩
end Go.Proofs.YtgkamgijnhbcbaaGreatDoor
