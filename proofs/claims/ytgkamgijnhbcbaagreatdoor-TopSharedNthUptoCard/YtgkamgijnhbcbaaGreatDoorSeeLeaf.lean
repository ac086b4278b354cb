/- The functions of the law that show a string or a number to an eye. -/
import Derived.Test.YtgkamgijnhbcbaaGreatDoorProg
import Derived.Test.YtgkamgijnhbcbaaGreatDoorEye
import Derived.WalkKit
import Derived.WalkSpells
import Derived.WalkLawsBesides
import Derived.Deep.RegionLaw
import Derived.Deep.AppendLies
namespace Go.Proofs.YtgkamgijnhbcbaaGreatDoor
open Go.RowKit Go.Vt Go.Proofs
theorem infoI : (Tryz.prog.info? 3).map (fun i => (i.zero, i.size, i.bytes)) = some (some (.int .i64 0), 1, 8) := by kernel_rfl
theorem infoS : (Tryz.prog.info? 9).map (fun i => (i.zero, i.size, i.bytes)) = some (some (.string ByteArray.empty), 1, 16) := by kernel_rfl
theorem e12 : (3 : Nat) ≠ 9 := by decide
set_option maxRecDepth 100000 in
set_option maxHeartbeats 1000000 in
theorem num_int (tab : Nat → List CT) (n : Nat) : SeeOK Tryz.prog 3 9 tab n 51 [.int .i64] := by
  intro mk rm cs F w be oe B b o ns ss at_ hn h
  obtain ⟨m, rfl, hm⟩ := h.ht.int1
  obtain ⟨nv, sv, hv⟩ := h.eye
  have hx := rd_int h.rd
  obtain ⟨i0, hi0, hz0, hz1, hz2⟩ := info_parts infoI
  have hB := h.bs
  have hbe := hv.lt
  have hrow := hv.rowN
  have hb := h.size
  have hbF := h.fb b h.f
  have hnr := hv.nameN
  have n1 : nv.ownBlock ≠ some be := fun e => by have := hnr be e; omega
  have hbh : be < w.heap.size := by omega
  obtain ⟨k1, k2, k3⟩ := lim_ok h.ln (by simp [nodesRow, nodes])
  have hla := h.la
  have ha0 := h.a0
  simp only [nodesRow, nodes, lim] at hla
  have hwm : IntKind.i64.wrap m = m := hm
  have HW := Lib.hid hwm
  clear hwm
  cases mk with
  | false =>
    have c0 := hv.cell0
    have c2 := hv.cell2
    have f0 := hv.frozen oe
    have hlt' : be < (w.alloc (Obj.cells #[Value.int IntKind.i64 m] 3)).drew.heap.size := by show be < (w.alloc _).heap.size; rw [alloc_size]; omega
    go_enter Tryz.func51, Tryz.ntmps51
    go_wp2
    go_region_law
      ((refine step_append_lies _ (by rfl) _ _ _ (by rfl) B 3 i0 _ 1 8 Tryz.underlying34 hi0 hz0 hz1 hz2 rfl Nat.one_pos nv _ _ (by rfl) ((hrow.alloc _).drew) ⟨w.heap.size, 0, none⟩ 1 1 [.int .i64 m] (by rfl) (by rfl) (World.news_of_block (cs := #[.int .i64 m]) (t := 3) (fr := (0, 0)) (heap_alloc_new w _)) (by simp [Value.oneCell']) Nat.one_pos k1 k2 (Nat.le_trans hB (by simp)) (w.heap.size + 1) (by simp) ?_
        intro gg cap w1 hown1 hgrow hat hlt
        have hc1 : w1.cell? ⟨be, oe, none⟩ = some nv := (hgrow.cell_far ⟨be, oe, none⟩ hlt' (Ne.symm n1)).trans ((World.cell?_alloc_past _ _ _ hbh).trans c0)
        have hfz : w1.frozen? ⟨be, oe, none⟩ = false := (hgrow.frozen_far ⟨be, oe, none⟩ hlt' (Ne.symm n1)).trans ((frozen?_alloc_cells _ _ _ _).trans f0)))
    all_goals
      go_end0
      exact ⟨rfl, _, _, _, seen_push e12 (SeeChg.refl (by obtain ⟨c, e, hb, _⟩ := hv.blk; exact ⟨c, e, hb⟩) (by simp)) hv hgrow hown1 ⟨Int.le_refl _, by simp only [nodesRow, nodes]; omega⟩ (by simp only [nodesRow, nodes]; omega) hB h.fb (fun _ => ⟨HW.out.symm, rfl⟩) (by simp)⟩
  | true =>
    have hu := h.uf rfl
    have c2 := hv.cell2
    have c3 := hv.cell3
    have f3 := hv.frozen (oe + 3)
    have fb : w.frozen? ⟨b, o, none⟩ = false := by obtain ⟨c, e, hb⟩ := hu b h.f; simp [World.frozen?, hb]
    have hne : b ≠ be := hbF.2
    obtain ⟨g1, g2, g3, g4⟩ := SeeChg.mark (at1 := at_ + 1) (u := .int .i64 (at_ + 1)) (o := o) hv h.fb h.f hu hx (.inr ⟨_, rfl, IntWalk.i64_in _ (by omega)⟩)
    go_enter Tryz.func51, Tryz.ntmps51
    go_wp2
    generalize hW : (w.setCell ⟨be, oe + 3, none⟩ (.int .i64 (at_ + 1))).setCell ⟨b, o, none⟩ (.int .i64 (at_ + 1)) = W at *
    have hrow := g2.rowN
    have c0 := g2.cell0
    have f0 := g2.frozen oe
    have hsz : w.heap.size ≤ W.heap.size := g1.fr.size
    clear hW hx hv c2 c3 f3 fb hu
    have hbh : be < W.heap.size := by omega
    have hB : B ≤ W.heap.size := by omega
    have hlt' : be < (W.alloc (Obj.cells #[Value.int IntKind.i64 (at_ + 1)] 3)).drew.heap.size := by show be < (W.alloc _).heap.size; rw [alloc_size]; omega
    go_region_law
      ((refine step_append_lies _ (by rfl) _ _ _ (by rfl) B 3 i0 _ 1 8 Tryz.underlying34 hi0 hz0 hz1 hz2 rfl Nat.one_pos nv _ _ (by rfl) ((hrow.alloc _).drew) ⟨W.heap.size, 0, none⟩ 1 1 [.int .i64 (at_ + 1)] (by rfl) (by rfl) (World.news_of_block (cs := #[.int .i64 (at_ + 1)]) (t := 3) (fr := (0, 0)) (heap_alloc_new W _)) (by simp [Value.oneCell']) Nat.one_pos k1 k2 (Nat.le_trans hB (by simp)) (W.heap.size + 1) (by simp) ?_
        intro gg cap w1 hown1 hgrow hat hlt
        have hc1 : w1.cell? ⟨be, oe, none⟩ = some nv := (hgrow.cell_far ⟨be, oe, none⟩ hlt' (Ne.symm n1)).trans ((World.cell?_alloc_past _ _ _ hbh).trans c0)
        have hfz : w1.frozen? ⟨be, oe, none⟩ = false := (hgrow.frozen_far ⟨be, oe, none⟩ hlt' (Ne.symm n1)).trans ((frozen?_alloc_cells _ _ _ _).trans f0)))
    all_goals
      go_end0
      exact ⟨rfl, _, _, _, seen_push e12 g1 g2 hgrow hown1 ⟨by omega, by simp only [nodesRow, nodes]; omega⟩ (by simp only [nodesRow, nodes]; omega) h.bs h.fb (by simp) (fun _ => g4)⟩
set_option maxRecDepth 100000 in
set_option maxHeartbeats 1000000 in
theorem num_uint8 (tab : Nat → List CT) (n : Nat) : SeeOK Tryz.prog 3 9 tab n 52 [.int .u8] := by
  intro mk rm cs F w be oe B b o ns ss at_ hn h
  obtain ⟨m, rfl, hm⟩ := h.ht.int1
  obtain ⟨nv, sv, hv⟩ := h.eye
  have hx := rd_int h.rd
  obtain ⟨i0, hi0, hz0, hz1, hz2⟩ := info_parts infoI
  have hB := h.bs
  have hbe := hv.lt
  have hrow := hv.rowN
  have hb := h.size
  have hbF := h.fb b h.f
  have hnr := hv.nameN
  have n1 : nv.ownBlock ≠ some be := fun e => by have := hnr be e; omega
  have hbh : be < w.heap.size := by omega
  obtain ⟨k1, k2, k3⟩ := lim_ok h.ln (by simp [nodesRow, nodes])
  have hla := h.la
  have ha0 := h.a0
  simp only [nodesRow, nodes, lim] at hla
  have hwm : IntKind.i64.wrap m = m := Go.Vt.wrap_small hm (by decide)
  have HW := Lib.hid hwm
  clear hwm
  cases mk with
  | false =>
    have c0 := hv.cell0
    have c2 := hv.cell2
    have f0 := hv.frozen oe
    have hlt' : be < (w.alloc (Obj.cells #[Value.int IntKind.i64 m] 3)).drew.heap.size := by show be < (w.alloc _).heap.size; rw [alloc_size]; omega
    have hwm := HW.out
    go_enter Tryz.func52, Tryz.ntmps52
    go_wp2
    go_region_law
      ((refine step_append_lies _ (by rfl) _ _ _ (by rfl) B 3 i0 _ 1 8 Tryz.underlying34 hi0 hz0 hz1 hz2 rfl Nat.one_pos nv _ _ (by rfl) ((hrow.alloc _).drew) ⟨w.heap.size, 0, none⟩ 1 1 [.int .i64 m] (by rfl) (by rfl) (World.news_of_block (cs := #[.int .i64 m]) (t := 3) (fr := (0, 0)) (heap_alloc_new w _)) (by simp [Value.oneCell']) Nat.one_pos k1 k2 (Nat.le_trans hB (by simp)) (w.heap.size + 1) (by simp) ?_
        intro gg cap w1 hown1 hgrow hat hlt
        have hc1 : w1.cell? ⟨be, oe, none⟩ = some nv := (hgrow.cell_far ⟨be, oe, none⟩ hlt' (Ne.symm n1)).trans ((World.cell?_alloc_past _ _ _ hbh).trans c0)
        have hfz : w1.frozen? ⟨be, oe, none⟩ = false := (hgrow.frozen_far ⟨be, oe, none⟩ hlt' (Ne.symm n1)).trans ((frozen?_alloc_cells _ _ _ _).trans f0)))
    all_goals
      go_end0
      exact ⟨rfl, _, _, _, seen_push e12 (SeeChg.refl (by obtain ⟨c, e, hb, _⟩ := hv.blk; exact ⟨c, e, hb⟩) (by simp)) hv hgrow hown1 ⟨Int.le_refl _, by simp only [nodesRow, nodes]; omega⟩ (by simp only [nodesRow, nodes]; omega) hB h.fb (fun _ => ⟨HW.out.symm, rfl⟩) (by simp)⟩
  | true =>
    have hu := h.uf rfl
    have c2 := hv.cell2
    have c3 := hv.cell3
    have f3 := hv.frozen (oe + 3)
    have fb : w.frozen? ⟨b, o, none⟩ = false := by obtain ⟨c, e, hb⟩ := hu b h.f; simp [World.frozen?, hb]
    have hne : b ≠ be := hbF.2
    obtain ⟨g1, g2, g3, g4⟩ := SeeChg.mark (at1 := at_ + 1) (u := .int .u8 ((at_ + 1) % 256)) (o := o) hv h.fb h.f hu hx (.inr ⟨_, rfl, (by simp only [IntKind.wrap, IntKind.bits, IntKind.signed]; simp)⟩)
    go_enter Tryz.func52, Tryz.ntmps52
    go_wp2
    generalize hW : (w.setCell ⟨be, oe + 3, none⟩ (.int .i64 (at_ + 1))).setCell ⟨b, o, none⟩ (.int .u8 ((at_ + 1) % 256)) = W at *
    have hrow := g2.rowN
    have c0 := g2.cell0
    have f0 := g2.frozen oe
    have hsz : w.heap.size ≤ W.heap.size := g1.fr.size
    clear hW hx hv c2 c3 f3 fb hu
    have hbh : be < W.heap.size := by omega
    have hB : B ≤ W.heap.size := by omega
    generalize hM : ((at_ + 1) % 256) = m' at *
    have hwm : IntKind.i64.wrap m' = m' := Go.Vt.wrap_small (k := .u8) (by rw [← hM]; exact (by simp only [IntKind.wrap, IntKind.bits, IntKind.signed]; simp)) (by decide)
    clear hM
    have hlt' : be < (W.alloc (Obj.cells #[Value.int IntKind.i64 m'] 3)).drew.heap.size := by show be < (W.alloc _).heap.size; rw [alloc_size]; omega
    go_region_law
      ((refine step_append_lies _ (by rfl) _ _ _ (by rfl) B 3 i0 _ 1 8 Tryz.underlying34 hi0 hz0 hz1 hz2 rfl Nat.one_pos nv _ _ (by rfl) ((hrow.alloc _).drew) ⟨W.heap.size, 0, none⟩ 1 1 [.int .i64 m'] (by rfl) (by rfl) (World.news_of_block (cs := #[.int .i64 m']) (t := 3) (fr := (0, 0)) (heap_alloc_new W _)) (by simp [Value.oneCell']) Nat.one_pos k1 k2 (Nat.le_trans hB (by simp)) (W.heap.size + 1) (by simp) ?_
        intro gg cap w1 hown1 hgrow hat hlt
        have hc1 : w1.cell? ⟨be, oe, none⟩ = some nv := (hgrow.cell_far ⟨be, oe, none⟩ hlt' (Ne.symm n1)).trans ((World.cell?_alloc_past _ _ _ hbh).trans c0)
        have hfz : w1.frozen? ⟨be, oe, none⟩ = false := (hgrow.frozen_far ⟨be, oe, none⟩ hlt' (Ne.symm n1)).trans ((frozen?_alloc_cells _ _ _ _).trans f0)))
    all_goals
      go_end0
      exact ⟨rfl, _, _, _, seen_push e12 g1 g2 hgrow hown1 ⟨by omega, by simp only [nodesRow, nodes]; omega⟩ (by simp only [nodesRow, nodes]; omega) h.bs h.fb (by simp) (fun _ => g4)⟩
set_option maxRecDepth 100000 in
set_option maxHeartbeats 1000000 in
theorem num_int64 (tab : Nat → List CT) (n : Nat) : SeeOK Tryz.prog 3 9 tab n 93 [.int .i64] := by
  intro mk rm cs F w be oe B b o ns ss at_ hn h
  obtain ⟨m, rfl, hm⟩ := h.ht.int1
  obtain ⟨nv, sv, hv⟩ := h.eye
  have hx := rd_int h.rd
  obtain ⟨i0, hi0, hz0, hz1, hz2⟩ := info_parts infoI
  have hB := h.bs
  have hbe := hv.lt
  have hrow := hv.rowN
  have hb := h.size
  have hbF := h.fb b h.f
  have hnr := hv.nameN
  have n1 : nv.ownBlock ≠ some be := fun e => by have := hnr be e; omega
  have hbh : be < w.heap.size := by omega
  obtain ⟨k1, k2, k3⟩ := lim_ok h.ln (by simp [nodesRow, nodes])
  have hla := h.la
  have ha0 := h.a0
  simp only [nodesRow, nodes, lim] at hla
  have hwm : IntKind.i64.wrap m = m := hm
  have HW := Lib.hid hwm
  clear hwm
  cases mk with
  | false =>
    have c0 := hv.cell0
    have c2 := hv.cell2
    have f0 := hv.frozen oe
    have hlt' : be < (w.alloc (Obj.cells #[Value.int IntKind.i64 m] 3)).drew.heap.size := by show be < (w.alloc _).heap.size; rw [alloc_size]; omega
    go_enter Tryz.func93, Tryz.ntmps93
    go_wp2
    go_region_law
      ((refine step_append_lies _ (by rfl) _ _ _ (by rfl) B 3 i0 _ 1 8 Tryz.underlying34 hi0 hz0 hz1 hz2 rfl Nat.one_pos nv _ _ (by rfl) ((hrow.alloc _).drew) ⟨w.heap.size, 0, none⟩ 1 1 [.int .i64 m] (by rfl) (by rfl) (World.news_of_block (cs := #[.int .i64 m]) (t := 3) (fr := (0, 0)) (heap_alloc_new w _)) (by simp [Value.oneCell']) Nat.one_pos k1 k2 (Nat.le_trans hB (by simp)) (w.heap.size + 1) (by simp) ?_
        intro gg cap w1 hown1 hgrow hat hlt
        have hc1 : w1.cell? ⟨be, oe, none⟩ = some nv := (hgrow.cell_far ⟨be, oe, none⟩ hlt' (Ne.symm n1)).trans ((World.cell?_alloc_past _ _ _ hbh).trans c0)
        have hfz : w1.frozen? ⟨be, oe, none⟩ = false := (hgrow.frozen_far ⟨be, oe, none⟩ hlt' (Ne.symm n1)).trans ((frozen?_alloc_cells _ _ _ _).trans f0)))
    all_goals
      go_end0
      exact ⟨rfl, _, _, _, seen_push e12 (SeeChg.refl (by obtain ⟨c, e, hb, _⟩ := hv.blk; exact ⟨c, e, hb⟩) (by simp)) hv hgrow hown1 ⟨Int.le_refl _, by simp only [nodesRow, nodes]; omega⟩ (by simp only [nodesRow, nodes]; omega) hB h.fb (fun _ => ⟨HW.out.symm, rfl⟩) (by simp)⟩
  | true =>
    have hu := h.uf rfl
    have c2 := hv.cell2
    have c3 := hv.cell3
    have f3 := hv.frozen (oe + 3)
    have fb : w.frozen? ⟨b, o, none⟩ = false := by obtain ⟨c, e, hb⟩ := hu b h.f; simp [World.frozen?, hb]
    have hne : b ≠ be := hbF.2
    obtain ⟨g1, g2, g3, g4⟩ := SeeChg.mark (at1 := at_ + 1) (u := .int .i64 (at_ + 1)) (o := o) hv h.fb h.f hu hx (.inr ⟨_, rfl, IntWalk.i64_in _ (by omega)⟩)
    go_enter Tryz.func93, Tryz.ntmps93
    go_wp2
    generalize hW : (w.setCell ⟨be, oe + 3, none⟩ (.int .i64 (at_ + 1))).setCell ⟨b, o, none⟩ (.int .i64 (at_ + 1)) = W at *
    have hrow := g2.rowN
    have c0 := g2.cell0
    have f0 := g2.frozen oe
    have hsz : w.heap.size ≤ W.heap.size := g1.fr.size
    clear hW hx hv c2 c3 f3 fb hu
    have hbh : be < W.heap.size := by omega
    have hB : B ≤ W.heap.size := by omega
    have hlt' : be < (W.alloc (Obj.cells #[Value.int IntKind.i64 (at_ + 1)] 3)).drew.heap.size := by show be < (W.alloc _).heap.size; rw [alloc_size]; omega
    go_region_law
      ((refine step_append_lies _ (by rfl) _ _ _ (by rfl) B 3 i0 _ 1 8 Tryz.underlying34 hi0 hz0 hz1 hz2 rfl Nat.one_pos nv _ _ (by rfl) ((hrow.alloc _).drew) ⟨W.heap.size, 0, none⟩ 1 1 [.int .i64 (at_ + 1)] (by rfl) (by rfl) (World.news_of_block (cs := #[.int .i64 (at_ + 1)]) (t := 3) (fr := (0, 0)) (heap_alloc_new W _)) (by simp [Value.oneCell']) Nat.one_pos k1 k2 (Nat.le_trans hB (by simp)) (W.heap.size + 1) (by simp) ?_
        intro gg cap w1 hown1 hgrow hat hlt
        have hc1 : w1.cell? ⟨be, oe, none⟩ = some nv := (hgrow.cell_far ⟨be, oe, none⟩ hlt' (Ne.symm n1)).trans ((World.cell?_alloc_past _ _ _ hbh).trans c0)
        have hfz : w1.frozen? ⟨be, oe, none⟩ = false := (hgrow.frozen_far ⟨be, oe, none⟩ hlt' (Ne.symm n1)).trans ((frozen?_alloc_cells _ _ _ _).trans f0)))
    all_goals
      go_end0
      exact ⟨rfl, _, _, _, seen_push e12 g1 g2 hgrow hown1 ⟨by omega, by simp only [nodesRow, nodes]; omega⟩ (by simp only [nodesRow, nodes]; omega) h.bs h.fb (by simp) (fun _ => g4)⟩
set_option maxRecDepth 100000 in
set_option maxHeartbeats 1000000 in
theorem str_ok (tab : Nat → List CT) (n : Nat) : SeeOK Tryz.prog 3 9 tab n 140 [.str] := by
  intro mk rm cs F w be oe B b o ns ss at_ hn h
  obtain ⟨m, rfl, hm⟩ := h.ht.str1
  obtain ⟨nv, sv, hv⟩ := h.eye
  have hx := rd_str h.rd
  obtain ⟨i0, hi0, hz0, hz1, hz2⟩ := info_parts infoS
  have hB := h.bs
  have hbe := hv.lt
  have hrow := hv.rowS
  have hb := h.size
  have hbF := h.fb b h.f
  have hnr := hv.nameS
  have n1 : sv.ownBlock ≠ some be := fun e => by have := hnr be e; omega
  have hbh : be < w.heap.size := by omega
  obtain ⟨k1, k2, k3⟩ := lim_ok h.ls (by simp [nodesRow, nodes])
  have hla := h.la
  have ha0 := h.a0
  simp only [nodesRow, nodes, lim] at hla
  cases mk with
  | false =>
    have c0 := hv.cell1
    have c2 := hv.cell2
    have f0 := hv.frozen (oe + 1)
    have hlt' : be < (w.alloc (Obj.cells #[Value.string m] 9)).drew.heap.size := by show be < (w.alloc _).heap.size; rw [alloc_size]; omega
    go_enter Tryz.func140, Tryz.ntmps140
    go_wp2
    go_region_law
      ((refine step_append_lies _ (by rfl) _ _ _ (by rfl) B 9 i0 _ 1 16 Tryz.underlying81 hi0 hz0 hz1 hz2 rfl Nat.one_pos sv _ _ (by rfl) ((hrow.alloc _).drew) ⟨w.heap.size, 0, none⟩ 1 1 [.string m] (by rfl) (by rfl) (World.news_of_block (cs := #[.string m]) (t := 9) (fr := (0, 0)) (heap_alloc_new w _)) (by simp [Value.oneCell']) Nat.one_pos k1 k3 (Nat.le_trans hB (by simp)) (w.heap.size + 1) (by simp) ?_
        intro gg cap w1 hown1 hgrow hat hlt
        have hc1 : w1.cell? ⟨be, oe + 1, none⟩ = some sv := (hgrow.cell_far ⟨be, oe + 1, none⟩ hlt' (Ne.symm n1)).trans ((World.cell?_alloc_past _ _ _ hbh).trans c0)
        have hfz : w1.frozen? ⟨be, oe + 1, none⟩ = false := (hgrow.frozen_far ⟨be, oe + 1, none⟩ hlt' (Ne.symm n1)).trans ((frozen?_alloc_cells _ _ _ _).trans f0)))
    all_goals
      go_end0
      exact ⟨rfl, _, _, _, seen_pushS e12 (SeeChg.refl (by obtain ⟨c, e, hb, _⟩ := hv.blk; exact ⟨c, e, hb⟩) (by simp)) hv hgrow hown1 ⟨Int.le_refl _, by simp only [nodesRow, nodes]; omega⟩ (by simp only [nodesRow, nodes]; omega) hB h.fb (fun _ => ⟨rfl, rfl⟩) (by simp)⟩
  | true =>
    have hu := h.uf rfl
    have c2 := hv.cell2
    have c3 := hv.cell3
    have f3 := hv.frozen (oe + 3)
    have fb : w.frozen? ⟨b, o, none⟩ = false := by obtain ⟨c, e, hb⟩ := hu b h.f; simp [World.frozen?, hb]
    have hne : b ≠ be := hbF.2
    obtain ⟨q1, q2, q3, q4⟩ := SeeChg.mark (at1 := at_ + 1) (u := .string ⟨#[63]⟩) (o := o) hv h.fb h.f hu hx (.inr ⟨_, rfl, by decide⟩)
    go_enter Tryz.func140, Tryz.ntmps140
    go_wp2
    generalize hW : (w.setCell ⟨be, oe + 3, none⟩ (.int .i64 (at_ + 1))).setCell ⟨b, o, none⟩ (.string ⟨#[63]⟩) = W at *
    clear hW
    go_loopw [4, 22, 23, 24, 25, 26, 27, 28, 29, 30, 31, 32, 33, 34, 35, 36] (fun x4 x22 x23 x24 x25 x26 x27 x28 x29 x30 x31 x32 x33 x34 x35 x36 wr => ∃ (k : Int) (s : ByteArray), x4 = .int .i64 k ∧ 0 ≤ k ∧ (s.size : Int) + k ≤ at_ + 2 ∧ wr.cell? ⟨b, o, none⟩ = some (.string s) ∧ SeeChg true F B be oe w wr ∧ EyeV 3 9 wr be oe B nv sv ns ss true (at_ + 1) rm) (fun x4 x22 x23 x24 x25 x26 x27 x28 x29 x30 x31 x32 x33 x34 x35 x36 _ => (intOf x4).toNat)
    case atStart => exact ⟨at_ + 1, _, rfl, by omega, by show (1 : Int) + _ ≤ _; omega, q3, q1, q2⟩
    case round =>
      obtain ⟨k, s, rfl, hk0, hks, hcs, hch, hev⟩ := hrel
      have fbr : wr.frozen? ⟨b, o, none⟩ = false := by
        have := hch.chg b h.f
        rw [if_pos rfl] at this
        obtain ⟨c, e, hb⟩ := this.blk
        simp [World.frozen?, hb]
      by_cases hlt : 0 < k
      · have hlb : b < wr.heap.size := World.block_lt_of_cell? wr _ hcs
        have hcv : ∀ X : Int, (convert 25 9 (.slice (some ⟨wr.heap.size, 0, none⟩) 1 1)).run Tryz.prog (wr.alloc (Obj.cells #[.int .u8 X] 5)).drew = .ok (.string ⟨#[UInt8.ofNat X.toNat]⟩) (wr.alloc (Obj.cells #[.int .u8 X] 5)).drew := fun X => by
          have hl : (loadCells ⟨wr.heap.size, 0, none⟩ 1).run Tryz.prog (wr.alloc (Obj.cells #[.int .u8 X] 5)).drew = .ok (([X] : List Int).map (Value.int .u8)).toArray (wr.alloc (Obj.cells #[.int .u8 X] 5)).drew := by
            simp [loadCells, loadCellsFrom, go_sem]
          rw [run_convert_bytes_string _ 25 9 5 _ 1 1 Tryz.underlying25 (by kernel_rfl) (by kernel_rfl), run_bytesToString _ _ 1 1 [X] hl]
          rfl
        go_wp2
        go_region
        go_wp2
        go_roundw
        case rel =>
          have hsz : (s ++ ({ data := #[UInt8.ofNat (97 + k % 26).toNat] } : ByteArray)).size = s.size + 1 := by simp [ByteArray.size_append]; rfl
          refine ⟨k / 26, _, rfl, by omega, by rw [hsz]; omega, ?_, hch.more h.f h.fb hcs (.inr ⟨_, rfl, by rw [hsz]; simp only [strMax]; omega⟩), hev.more hbF.1 hne⟩
          rw [World.cell?_drew, World.cell?_alloc_past _ _ _ (by simpa [World.setCell] using hlb)]
          exact World.cell?_setCell_same _ _ _ hcs
        case measure => simp [intOf]; omega
      · have hsz : w.heap.size ≤ wr.heap.size := hch.fr.size
        have hrow := hev.rowS
        have c0 := hev.cell1
        have f0 := hev.frozen (oe + 1)
        have hnr := hev.nameS
        have hbh : be < wr.heap.size := by omega
        have hB : B ≤ wr.heap.size := by omega
        have hlt' : be < (wr.alloc (Obj.cells #[Value.string s] 9)).drew.heap.size := by show be < (wr.alloc _).heap.size; rw [alloc_size]; omega
        go_wp2
        go_region_law
          ((refine step_append_lies _ (by rfl) _ _ _ (by rfl) B 9 i0 _ 1 16 Tryz.underlying81 hi0 hz0 hz1 hz2 rfl Nat.one_pos sv _ _ (by rfl) ((hrow.alloc _).drew) ⟨wr.heap.size, 0, none⟩ 1 1 [.string s] (by rfl) (by rfl) (World.news_of_block (cs := #[.string s]) (t := 9) (fr := (0, 0)) (heap_alloc_new wr _)) (by simp [Value.oneCell']) Nat.one_pos k1 k3 (Nat.le_trans hB (by simp)) (wr.heap.size + 1) (by simp) ?_
            intro gg cap w1 hown1 hgrow hat hlt
            have hc1 : w1.cell? ⟨be, oe + 1, none⟩ = some sv := (hgrow.cell_far ⟨be, oe + 1, none⟩ hlt' (Ne.symm n1)).trans ((World.cell?_alloc_past _ _ _ hbh).trans c0)
            have hfz : w1.frozen? ⟨be, oe + 1, none⟩ = false := (hgrow.frozen_far ⟨be, oe + 1, none⟩ hlt' (Ne.symm n1)).trans ((frozen?_alloc_cells _ _ _ _).trans f0)))
        all_goals
          go_end0
          exact ⟨rfl, _, _, _, seen_pushS e12 hch hev hgrow hown1 ⟨by omega, by simp only [nodesRow, nodes]; omega⟩ (by simp only [nodesRow, nodes]; omega) h.bs h.fb (by simp) (fun _ k hk => by have := hch.chg k hk; rw [if_pos rfl] at this; exact this.blk)⟩
end Go.Proofs.YtgkamgijnhbcbaaGreatDoor
