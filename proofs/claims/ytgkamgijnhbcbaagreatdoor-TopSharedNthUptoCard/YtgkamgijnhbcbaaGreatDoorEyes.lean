/- The functions of the eye: great, same, alike, look. -/
import Derived.Test.YtgkamgijnhbcbaaGreatDoorOwnAny
import Derived.Test.YtgkamgijnhbcbaaGreatDoorSeeAny
import Derived.Test.YtgkamgijnhbcbaaGreatDoorPart
import Derived.WalkKit
import Derived.WalkSpells
import Derived.WalkLawsBesides
import Derived.Deep.RegionLaw
import Derived.Deep.AppendLies
import Derived.Deep.QuietTactic
import Derived.BigQuiet
import Derived.StillTailTactics
namespace Go.Proofs.YtgkamgijnhbcbaaGreatDoor
open Go.RowKit Go.Vt Go.Proofs
set_option maxRecDepth 100000 in
theorem great_ok : GreatOK Tryz.prog 43 := by
  intro w v ns ss h
  obtain ⟨⟨nv, sv, m, a, r, rfl, ⟨an, cn, gn, rfl, hn1, hn2⟩, ⟨sa, cs, gs, rfl, hs1, hs2⟩⟩, hln, hls⟩ := h
  simp only [List.length_map] at *
  have hl : ss.length ≤ 1099511627776 := hls
  have hl2 : ns.length ≤ 1099511627776 := hln
  have H1 := Lib.hid hs1
  have H2 := Lib.hid hs2
  clear hs1 hs2 hn1 hn2 hln hls
  go_enter Tryz.func43, Tryz.ntmps43
  go_wp2
  go_loopw [3, 4, 5, 6, 7, 8, 9, 12, 13, 14, 15, 16, 17, 18, 19, 20, 21, 22] (fun x3 x4 x5 x6 x7 x8 x9 x12 x13 x14 x15 x16 x17 x18 x19 x20 x21 x22 wr => ∃ i b : Nat, i ≤ ss.length ∧ b ≤ 2000 ∧ x3 = .int .i64 b ∧ x4 = .int .i64 i ∧ wr = w.alloc (Obj.cells #[Value.slice an ns.length cn, Value.slice sa ss.length cs, Value.bool m, Value.int IntKind.i64 a, Value.bool r] 83)) (fun x3 x4 x5 x6 x7 x8 x9 x12 x13 x14 x15 x16 x17 x18 x19 x20 x21 x22 _ => ss.length - (intOf x4).toNat)
  case atStart => exact ⟨0, 0, by omega, by omega, rfl, rfl, rfl⟩
  case round =>
    obtain ⟨i, b, hi, hb, rfl, rfl, rfl⟩ := hrel
    by_cases hlt : i < ss.length
    · have hne : ss.map Value.string ≠ [] := by intro e; simp at e; subst e; simp at hlt
      obtain ⟨rfl, hg⟩ := H1.out hne
      have q : w.cell? ⟨gs, i, none⟩ = some (.string ss[i]) := H2.out i _ (by simp [hlt])
      go_wp2
      all_goals first
        | (go_ret; exact ⟨⟨_, rfl⟩, (Below.refl _ _).alloc (Nat.le_refl _) _⟩)
        | (go_roundw
           case rel => exact ⟨i + 1, b + 3000, by omega, by omega, by go_num, by go_num, by first | trivial | rfl⟩
           case measure => simp [intOf]; omega)
        | (go_roundw
           case rel => exact ⟨i + 1, b + ss[i].size, by omega, by omega, by go_num, by go_num, by first | trivial | rfl⟩
           case measure => simp [intOf]; omega)
    · obtain rfl : i = ss.length := by omega
      go_wp2
      go_ret

      exact ⟨⟨_, rfl⟩, (Below.refl _ _).alloc (Nat.le_refl _) _⟩
set_option maxRecDepth 100000 in
theorem same_ok : SameOK Tryz.prog 45 := by
  intro w v u ns ss h k
  obtain ⟨⟨nv, sv, m, a, r, rfl, ⟨an, cn, gn, rfl, hn1, hn2⟩, ⟨sa, cs, gs, rfl, hs1, hs2⟩⟩, hln, hls⟩ := h
  obtain ⟨⟨nv', sv', m', a', r', rfl, ⟨an', cn', gn', rfl, hn1', hn2'⟩, ⟨sa', cs', gs', rfl, hs1', hs2'⟩⟩, _, _⟩ := k
  simp only [List.length_map] at *
  have hl : ss.length ≤ 1099511627776 := hls
  have hl2 : ns.length ≤ 1099511627776 := hln
  have H1 := Lib.hid hs1
  have H2 := Lib.hid hs2
  have H3 := Lib.hid hs1'
  have H4 := Lib.hid hs2'
  have H5 := Lib.hid hn1
  have H6 := Lib.hid hn2
  have H7 := Lib.hid hn1'
  have H8 := Lib.hid hn2'
  clear hs1 hs2 hn1 hn2 hln hls hs1' hs2' hn1' hn2'
  obtain ⟨W1, hW1⟩ : ∃ W1, W1 = (w.alloc (Obj.cells #[Value.slice an ns.length cn, Value.slice sa ss.length cs, Value.bool m, Value.int IntKind.i64 a, Value.bool r] 83)).alloc (Obj.cells #[Value.slice an' ns.length cn', Value.slice sa' ss.length cs', Value.bool m', Value.int IntKind.i64 a', Value.bool r'] 83) := ⟨_, rfl⟩
  have b1 : Below w.heap.size w W1 := by rw [hW1]; exact ((Below.refl _ _).alloc (Nat.le_refl _) _).alloc (by simp) _
  have sz1 : W1.heap.size = w.heap.size + 2 := by rw [hW1, alloc_size, alloc_size]
  have x1 : W1.heap[w.heap.size]? = some (.cells #[Value.slice an ns.length cn, Value.slice sa ss.length cs, Value.bool m, Value.int IntKind.i64 a, Value.bool r] 83 (0, 0)) := by rw [hW1]; exact (Below.heap_alloc _ _ _ (by rw [alloc_size]; omega)).trans (heap_alloc_new w _)
  have y1 : W1.heap[w.heap.size + 1]? = some (.cells #[Value.slice an' ns.length cn', Value.slice sa' ss.length cs', Value.bool m', Value.int IntKind.i64 a', Value.bool r'] 83 (0, 0)) := by
    rw [hW1]
    have := heap_alloc_new (w.alloc (Obj.cells #[Value.slice an ns.length cn, Value.slice sa ss.length cs, Value.bool m, Value.int IntKind.i64 a, Value.bool r] 83)) (Obj.cells #[Value.slice an' ns.length cn', Value.slice sa' ss.length cs', Value.bool m', Value.int IntKind.i64 a', Value.bool r'] 83); rwa [alloc_size] at this
  have HX := Lib.hid (And.intro b1 (And.intro sz1 (And.intro x1 y1)))
  have HW := Lib.hid hW1
  clear hW1 b1 sz1 x1 y1
  go_enter Tryz.func45, Tryz.ntmps45
  go_wp2
  rw [← HW.out]
  go_loopw [5, 23, 24, 25, 26, 27, 28, 29, 30, 31, 32, 33, 34, 35, 36, 37, 38, 39, 40] (fun x5 x23 x24 x25 x26 x27 x28 x29 x30 x31 x32 x33 x34 x35 x36 x37 x38 x39 x40 wr => ∃ i : Nat, i ≤ ns.length ∧ x5 = .int .i64 i ∧ Below W1.heap.size W1 wr) (fun x5 x23 x24 x25 x26 x27 x28 x29 x30 x31 x32 x33 x34 x35 x36 x37 x38 x39 x40 _ => ns.length - (intOf x5).toNat)
  case atStart => exact ⟨0, by omega, rfl, Below.refl _ _⟩
  case round =>
    obtain ⟨i, hi, rfl, hB⟩ := hrel
    obtain ⟨b1, sz1, x1, y1⟩ := HX.out
    have e0 : wr.cell? ⟨w.heap.size, 0, none⟩ = some (Value.slice an ns.length cn) := (hB.cell (p := ⟨w.heap.size, 0, none⟩) (by show w.heap.size < _; omega)).trans (cell_of_row _ _ 0 _ _ _ x1)
    have e1 : wr.cell? ⟨w.heap.size + 1, 0, none⟩ = some (Value.slice an' ns.length cn') := (hB.cell (p := ⟨w.heap.size + 1, 0, none⟩) (by show w.heap.size + 1 < _; omega)).trans (cell_of_row _ _ 0 _ _ _ y1)
    have z0 : wr.cell? ⟨w.heap.size, 1, none⟩ = some (Value.slice sa ss.length cs) := (hB.cell (p := ⟨w.heap.size, 1, none⟩) (by show w.heap.size < _; omega)).trans (cell_of_row _ _ 1 _ _ _ x1)
    have z1 : wr.cell? ⟨w.heap.size + 1, 1, none⟩ = some (Value.slice sa' ss.length cs') := (hB.cell (p := ⟨w.heap.size + 1, 1, none⟩) (by show w.heap.size + 1 < _; omega)).trans (cell_of_row _ _ 1 _ _ _ y1)
    by_cases hlt : i < ns.length
    · have hne : ns.map (Value.int .i64) ≠ [] := by intro e; simp at e; subst e; simp at hlt
      obtain ⟨rfl, hg⟩ := H5.out hne
      obtain ⟨rfl, hg'⟩ := H7.out hne
      have q : wr.cell? ⟨gn, i, none⟩ = some (.int .i64 ns[i]) := (hB.cell (p := ⟨gn, i, none⟩) (by show gn < _; omega)).trans ((b1.cell (p := ⟨gn, i, none⟩) hg).trans (H6.out i _ (by simp [hlt])))
      have q' : wr.cell? ⟨gn', i, none⟩ = some (.int .i64 ns[i]) := (hB.cell (p := ⟨gn', i, none⟩) (by show gn' < _; omega)).trans ((b1.cell (p := ⟨gn', i, none⟩) hg').trans (H8.out i _ (by simp [hlt])))
      have HB := Lib.hid hB
      clear hB b1 sz1 x1 y1 z0 z1
      go_wp2
      go_quiet (fail)
      go_wp2
      go_roundw
      case rel => exact ⟨i + 1, by omega, by go_num, below_drewN HB.out _⟩
      case measure => simp [intOf]; omega
    · obtain rfl : i = ns.length := by omega
      have HB := Lib.hid hB
      clear hB b1 sz1 x1 y1
      go_wp2
      go_loopw [6, 41, 42, 43, 44, 45, 46, 47, 48, 49, 50, 51, 52, 53, 54, 55, 56, 57, 58] (fun x6 x41 x42 x43 x44 x45 x46 x47 x48 x49 x50 x51 x52 x53 x54 x55 x56 x57 x58 wr => ∃ i : Nat, i ≤ ss.length ∧ x6 = .int .i64 i ∧ Below W1.heap.size W1 wr) (fun x6 x41 x42 x43 x44 x45 x46 x47 x48 x49 x50 x51 x52 x53 x54 x55 x56 x57 x58 _ => ss.length - (intOf x6).toNat)
      case atStart => exact ⟨0, by omega, rfl, HB.out⟩
      case round =>
        obtain ⟨i, hi, rfl, hB⟩ := hrel
        clear HB z0 z1 e0 e1
        obtain ⟨b1, sz1, x1, y1⟩ := HX.out
        have z0 : wr.cell? ⟨w.heap.size, 1, none⟩ = some (Value.slice sa ss.length cs) := (hB.cell (p := ⟨w.heap.size, 1, none⟩) (by show w.heap.size < _; omega)).trans (cell_of_row _ _ 1 _ _ _ x1)
        have z1 : wr.cell? ⟨w.heap.size + 1, 1, none⟩ = some (Value.slice sa' ss.length cs') := (hB.cell (p := ⟨w.heap.size + 1, 1, none⟩) (by show w.heap.size + 1 < _; omega)).trans (cell_of_row _ _ 1 _ _ _ y1)
        by_cases hlt : i < ss.length
        · have hne : ss.map Value.string ≠ [] := by intro e; simp at e; subst e; simp at hlt
          obtain ⟨rfl, hg⟩ := H1.out hne
          obtain ⟨rfl, hg'⟩ := H3.out hne
          have q : wr.cell? ⟨gs, i, none⟩ = some (.string ss[i]) := (hB.cell (p := ⟨gs, i, none⟩) (by show gs < _; omega)).trans ((b1.cell (p := ⟨gs, i, none⟩) hg).trans (H2.out i _ (by simp [hlt])))
          have q' : wr.cell? ⟨gs', i, none⟩ = some (.string ss[i]) := (hB.cell (p := ⟨gs', i, none⟩) (by show gs' < _; omega)).trans ((b1.cell (p := ⟨gs', i, none⟩) hg').trans (H4.out i _ (by simp [hlt])))
          have HB := Lib.hid hB
          clear hB b1 sz1 x1 y1
          go_wp2
          go_quiet (fail)
          go_wp2
          go_roundw
          case rel => exact ⟨i + 1, by omega, by go_num, below_drewN HB.out _⟩
          case measure => simp [intOf]; omega
        · obtain rfl : i = ss.length := by omega
          have HB := Lib.hid hB
          clear hB x1 y1
          go_wp2
          go_ret
          exact ⟨rfl, b1.trans (HB.out.mono (by omega))⟩
theorem zinfoE : (Tryz.prog.info? 83).map (fun i => (i.zero, i.size, i.bytes)) = some (some (.agg #[.slice none 0 0, .slice none 0 0, .bool false, .int .i64 0, .bool false]), 5, 72) := by kernel_rfl
set_option maxRecDepth 100000 in
theorem look_ok (tab : Nat → List CT) (n : Nat) : LookOK Tryz.prog 3 9 tab n 44 := by
  intro L w v outs hv hlen hok
  obtain ⟨a, cap, gc, rfl, hv1, hv2⟩ := hv
  rw [List.length_map]
  obtain ⟨i0, hi0, hz0, hz1, hz2⟩ := info_parts zinfoE
  have hmk : (Instr.makeSlice 84 (.int .i64 outs.length) (.int .i64 outs.length)).run Tryz.prog w = .ok (.slice (some ⟨w.heap.size, 0, none⟩) outs.length outs.length) (w.alloc (.cells (madeCells #[.slice none 0 0, .slice none 0 0, .bool false, .int .i64 0, .bool false] (outs.length * 5)) 83)) := by
    have := run_make (P := Tryz.prog) w 84 83 i0 _ Tryz.underlying84 hi0 hz0 .i64 .i64 outs.length outs.length (by omega) (by omega) (by rw [hz2]; omega) (by omega)
    rw [hz1] at this
    exact this
  have hst : LookAt 3 9 83 outs w 0 _ := LookAt.start (w := w) (T := 83) (Z := #[.slice none 0 0, .slice none 0 0, .bool false, .int .i64 0, .bool false]) rfl
  have HS := Lib.hid hst
  have H1 := Lib.hid hv1
  have H2 := Lib.hid hv2
  have HO := Lib.hid hok
  clear hst hv1 hv2 hok
  go_enter Tryz.func44, Tryz.ntmps44
  go_wp2
  go_loopw [4, 8, 9, 10, 11, 12, 13, 14, 15, 16, 17, 18, 19, 20, 21] (fun x4 x8 x9 x10 x11 x12 x13 x14 x15 x16 x17 x18 x19 x20 x21 wr => ∃ i : Nat, i ≤ outs.length ∧ x4 = .int .i64 i ∧ LookAt 3 9 83 outs w i wr) (fun x4 x8 x9 x10 x11 x12 x13 x14 x15 x16 x17 x18 x19 x20 x21 _ => outs.length - (intOf x4).toNat)
  case atStart => exact ⟨0, by omega, rfl, HS.out⟩
  case round =>
    obtain ⟨i, hi, rfl, hA⟩ := hrel
    by_cases hlt : i < outs.length
    · have hne : outs.map Out.val ≠ [] := by intro e; simp at e; subst e; simp at hlt
      obtain ⟨rfl, hg⟩ := H1.out hne
      have ho : outs[i]? = some outs[i] := List.getElem?_eq_getElem hlt
      have hm : outs[i] ∈ outs := List.getElem_mem hlt
      generalize outs[i] = o at ho hm
      have hoo := HO.out o hm
      have q : wr.cell? ⟨gc, i, none⟩ = some (.func (.func o.f) #[] #[.pointer (some ⟨o.b, 0, none⟩)]) := (hA.bel.cell (p := ⟨gc, i, none⟩) hg).trans (H2.out i _ (by rw [List.getElem?_map, ho]; rfl))
      have hent := hoo.enter
      obtain ⟨hpre, hpost⟩ := hA.drew.next ho hoo
      have hc := hoo.see false false o.cs o.G wr.drew w.heap.size (i * 5) wr.drew.heap.size o.b 0 [] [] 0 hoo.nn hpre
      have HC := Lib.hid hc
      have HP := Lib.hid hpost
      clear hc hpost hpre hoo hA
      go_wp2_with fail
      go_still_tail 7, (by kernel_rfl)
      change wpList _ _ _ _ _ wr.drew
      go_wp2_with fail
      refine HC.out.mono ?_
      rintro e w2 hp
      obtain ⟨rfl, hA'⟩ := HP.out e w2 hp
      go_wp2
      go_roundw
      case rel => exact ⟨i + 1, by omega, by go_num, hA'⟩
      case measure => simp [intOf]; omega
    · obtain rfl : i = outs.length := by omega
      have HA := Lib.hid hA
      clear hA
      go_wp2
      go_ret
      exact ⟨_, rfl, HA.out.done, HA.out.bel⟩
set_option maxRecDepth 100000 in
theorem alike_ok (hsame : SameOK Tryz.prog 45) : AlikeOK Tryz.prog 3 9 46 := by
  intro L L2 w v u but obs obs' hb1 hb2 hlen hv hu hle heq
  have HV := Lib.hid hv
  have HU := Lib.hid hu
  have HE := Lib.hid heq
  have HS := Lib.hid hsame
  obtain ⟨a, cap, g, rfl, hL, hv1, hv2⟩ := hv
  obtain ⟨a', cap', g', rfl, hL', hu1, hu2⟩ := hu
  rw [hle]
  have H1 := Lib.hid hv1
  have H2 := Lib.hid hv2
  have H3 := Lib.hid hu1
  have H4 := Lib.hid hu2
  clear hv1 hv2 hu1 hu2 heq hsame
  go_enter Tryz.func46, Tryz.ntmps46
  go_wp2
  go_loopw [7, 8, 9, 10, 11, 12, 13, 14, 15, 16, 17, 18, 19, 20, 21, 22, 23, 24, 25, 26, 27, 28] (fun x7 x8 x9 x10 x11 x12 x13 x14 x15 x16 x17 x18 x19 x20 x21 x22 x23 x24 x25 x26 x27 x28 wr => ∃ i : Nat, i ≤ obs.length ∧ x7 = .int .i64 i ∧ Below w.heap.size w wr) (fun x7 x8 x9 x10 x11 x12 x13 x14 x15 x16 x17 x18 x19 x20 x21 x22 x23 x24 x25 x26 x27 x28 _ => obs.length - (intOf x7).toNat)
  case atStart => exact ⟨0, by omega, rfl, Below.refl _ _⟩
  case round =>
    obtain ⟨i, hi, rfl, hB⟩ := hrel
    by_cases hlt : i < obs.length
    · have hne : obs ≠ [] := by intro e; subst e; simp at hlt
      have hne' : obs' ≠ [] := by intro e; subst e; simp at hle; omega
      obtain ⟨rfl, hg⟩ := H1.out hne
      obtain ⟨rfl, hg'⟩ := H3.out hne'
      by_cases hbut : (i : Int) = but
      · subst hbut
        have HB := Lib.hid hB
        clear hB
        go_wp2_with fail
        go_quiet (fail)
        go_wp2
        go_roundw
        case rel => exact ⟨i + 1, by omega, by go_num, below_drewN HB.out _⟩
        case measure => simp [intOf]; omega
      · have ho : obs[i]? = some obs[i] := List.getElem?_eq_getElem hlt
        have ho' := HE.out i hbut
        rw [ho] at ho'
        generalize obs[i] = o at ho ho'
        obtain ⟨k1, k2, B, m, k3, k4⟩ := H2.out i o ho
        obtain ⟨_, _, B', m', k3', k4'⟩ := H4.out i o ho'
        obtain ⟨nv, sv, c0, c1, c2, c3, c4, hR⟩ := Eye.read (k4.keepB (w' := wr.drew) (hB.block g hg) (fun x hx hl => hB.block x hl)) k1 k2
        obtain ⟨nv', sv', c0', c1', c2', c3', c4', hR'⟩ := Eye.read (k4'.keepB (w' := wr.drew) (hB.block g' hg') (fun x hx hl => hB.block x hl)) k1 k2
        have hc := HS.out _ _ _ _ _ hR hR'
        have HC := Lib.hid hc
        have HB := Lib.hid hB
        clear hc hB hR hR' k4 k4'
        go_wp2_with fail
        go_still_tail 12, (by kernel_rfl)
        change wpList _ _ _ _ _ wr.drew
        go_wp2_with fail
        refine HC.out.mono ?_
        rintro e w2 ⟨rfl, hb⟩
        go_wp2
        go_roundw
        case rel => exact ⟨i + 1, by omega, by go_num, (below_drewN HB.out 1).trans (hb.mono HB.out.size)⟩
        case measure => simp [intOf]; omega
    · obtain rfl : i = obs.length := by omega
      have HB := Lib.hid hB
      clear hB
      go_wp2
      go_ret
      exact ⟨rfl, HB.out⟩
end Go.Proofs.YtgkamgijnhbcbaaGreatDoor
