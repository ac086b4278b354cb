/- The functions of the law that show a list to an eye. -/
import Derived.Test.YtgkamgijnhbcbaaGreatDoorSeeLeaf
import Derived.Test.YtgkamgijnhbcbaaGreatDoorEye
import Derived.WalkKit
import Derived.WalkSpells
import Derived.WalkLawsBesides
import Derived.Deep.RegionLaw
import Derived.Deep.AppendLies
namespace Go.Proofs.YtgkamgijnhbcbaaGreatDoor
open Go.RowKit Go.Vt Go.Proofs
def tab : Nat → List CT := fun e =>
  if e = 3 then [.int .i64] else
  if e = 4 then [.bool] else
  if e = 5 then [.int .u8] else
  if e = 45 then [.sl 4] else
  if e = 132 then [.str, .sl 201, .int .i64, .sl 3] else
  if e = 201 then [.str, .str] else
  []
set_option maxRecDepth 100000 in
set_option maxHeartbeats 1000000 in
theorem all_58 (tab : Nat → List CT) (htab : (tab 3).length = 1) (n : Nat) : AllOK Tryz.prog 3 9 tab n 58 3 := by
  intro one hone hent mk rm sz len cap rows v F w be oe B ns ss at_ hn h
  obtain ⟨nv, sv, hv⟩ := h.eye
  obtain ⟨i0, hi0, hz0, hz1, hz2⟩ := info_parts infoI
  have hB := h.bs
  have hbe := hv.lt
  have hrow := hv.rowN
  have hnr := hv.nameN
  have n1 : nv.ownBlock ≠ some be := fun e => by have := hnr be e; omega
  have hbh : be < w.heap.size := by omega
  obtain ⟨k1, k2, k3⟩ := lim_ok h.ln (by simp [nodes])
  have c0 := hv.cell0
  have f0 := hv.frozen oe
  have c4 := hv.cell4
  obtain ⟨a, hva, hlen, hcap, hrd⟩ : ∃ a, v = .slice a len cap ∧ len ≤ rows.length ∧ rows.length ≤ cap ∧ _ := by simpa only [Rd] using h.rd
  subst hva
  have hnd := nodesRows_len rows
  have hlm := h.ln
  simp only [nodes, lim] at hlm
  have hlt' : be < (w.alloc (Obj.cells #[Value.int IntKind.i64 len] 3)).heap.size := by rw [alloc_size]; omega
  obtain rfl : sz = 1 := h.hsz.trans htab
  obtain ⟨b, o, hbo⟩ := sl_addr h.rd
  have Hone := Lib.hid hone
  clear hone
  have HN := Lib.hid hn
  clear hn
  have hseen : ∀ (w1 : World) (nv' : Value), (w.alloc (Obj.cells #[Value.int IntKind.i64 len] 3)).grownBy w1 nv.ownBlock → w1.ownsRow B 3 1 nv' (ns.length + 1) (ns.map (Value.int .i64) ++ [.int .i64 len]) → Seen 3 9 mk rm 1 [(len : Int)] [] F w be oe B ns ss at_ (w1.setCell ⟨be, oe, none⟩ nv') (ns ++ [(len : Int)]) ss at_ := fun w1 nv' hg hr =>
    seen_push e12 (SeeChg.refl (by obtain ⟨c, e, hb, _⟩ := hv.blk; exact ⟨c, e, hb⟩) h.uf) hv (X := Obj.cells #[Value.int IntKind.i64 len] 3) ⟨hg.os, hg.tape, hg.output, hg.size, hg.block⟩ hr ⟨Int.le_refl _, by omega⟩ (Nat.le_refl 1) hB h.fb (fun _ => ⟨rfl, rfl⟩) h.uf
  cases rm with
  | false =>
    go_enter Tryz.func58, Tryz.ntmps58
    go_wp2_with (at_builtin; refine wpList_append_lies _ rfl _ _ 34 rfl B 3 i0 _ 1 8 Tryz.underlying34 hi0 hz0 hz1 hz2 rfl Nat.one_pos nv _ _ rfl (hrow.alloc _) ⟨w.heap.size, 0, none⟩ 1 1 [.int .i64 len] rfl rfl (World.news_of_block (cs := #[.int .i64 len]) (t := 3) (fr := (0, 0)) (heap_alloc_new w _)) (by simp [Value.oneCell']) Nat.one_pos k1 k2 (Nat.le_trans hB (by simp)) (w.heap.size + 1) (by simp) ?_; intro gg cap' w1 hown1 hgrow hat hlt; have hc1 : w1.cell? ⟨be, oe, none⟩ = some nv := (hgrow.cell_far ⟨be, oe, none⟩ hlt' (Ne.symm n1)).trans ((World.cell?_alloc_past _ _ _ hbh).trans c0); have hfz : w1.frozen? ⟨be, oe, none⟩ = false := (hgrow.frozen_far ⟨be, oe, none⟩ hlt' (Ne.symm n1)).trans ((frozen?_alloc_cells _ _ _ _).trans f0); have hc4 := (hgrow.cell_far ⟨be, oe + 4, none⟩ hlt' (Ne.symm n1)).trans ((World.cell?_alloc_past _ _ _ hbh).trans c4))
    have hst := AllAt.start h hbo (hseen _ _ hgrow hown1)
    go_loopw [6, 26, 27, 28, 29, 30, 31, 32, 33, 34, 35, 36, 37] (fun x6 x26 x27 x28 x29 x30 x31 x32 x33 x34 x35 x36 x37 wr => ∃ i : Nat, i ≤ len ∧ x6 = .int .i64 i ∧ AllAt 3 9 mk false len rows F w be oe B ns ss at_ b o 1 i wr) (fun x6 x26 x27 x28 x29 x30 x31 x32 x33 x34 x35 x36 x37 _ => len - (intOf x6).toNat)
    case atStart => exact ⟨0, Nat.zero_le _, rfl, hst⟩
    case round =>
      obtain ⟨i, hi, rfl, hA⟩ := hrel
      by_cases hlt : i < len
      · obtain rfl : a = some ⟨b, o, none⟩ := hbo (by intro e; subst e; simp at hlen; omega)
        obtain ⟨cs, ns2, ss2, a2, hcs, hpre, hnext⟩ := hA.next h (by omega)
        have hc := Hone.out mk false cs F wr be oe B b (o + i * 1) ns2 ss2 a2 (by have := HN.out; omega) hpre
        rw [Nat.mul_one] at hc
        have HC := Lib.hid hc
        clear hc
        go_wp2_with fail
        refine HC.out.mono ?_
        rintro e w2 hp
        obtain ⟨rfl, hA'⟩ := hnext e w2 hp
        go_wp2
        go_roundw
        case rel => exact ⟨i + 1, by omega, by go_num, hA'⟩
        case measure => simp [intOf]; omega
      · obtain rfl : i = len := by omega
        go_wp2
        go_end0
        exact hA.done (cap := cap) (sz := 1)
  | true =>
    have hrc := (h.room rfl).1
    have hcb : cap ≤ 1099511627776 := by omega
    have HR := Lib.hid hrc
    clear hrc
    go_enter Tryz.func58, Tryz.ntmps58
    go_wp2_with (at_builtin; refine wpList_append_lies _ rfl _ _ 34 rfl B 3 i0 _ 1 8 Tryz.underlying34 hi0 hz0 hz1 hz2 rfl Nat.one_pos nv _ _ rfl (hrow.alloc _) ⟨w.heap.size, 0, none⟩ 1 1 [.int .i64 len] rfl rfl (World.news_of_block (cs := #[.int .i64 len]) (t := 3) (fr := (0, 0)) (heap_alloc_new w _)) (by simp [Value.oneCell']) Nat.one_pos k1 k2 (Nat.le_trans hB (by simp)) (w.heap.size + 1) (by simp) ?_; intro gg cap' w1 hown1 hgrow hat hlt; have hc1 : w1.cell? ⟨be, oe, none⟩ = some nv := (hgrow.cell_far ⟨be, oe, none⟩ hlt' (Ne.symm n1)).trans ((World.cell?_alloc_past _ _ _ hbh).trans c0); have hfz : w1.frozen? ⟨be, oe, none⟩ = false := (hgrow.frozen_far ⟨be, oe, none⟩ hlt' (Ne.symm n1)).trans ((frozen?_alloc_cells _ _ _ _).trans f0); have hc4 := (hgrow.cell_far ⟨be, oe + 4, none⟩ hlt' (Ne.symm n1)).trans ((World.cell?_alloc_past _ _ _ hbh).trans c4))
    have hst := AllAt.start h hbo (hseen _ _ hgrow hown1)
    go_loopw [6, 26, 27, 28, 29, 30, 31, 32, 33, 34, 35, 36, 37] (fun x6 x26 x27 x28 x29 x30 x31 x32 x33 x34 x35 x36 x37 wr => ∃ i : Nat, i ≤ cap ∧ x6 = .int .i64 i ∧ AllAt 3 9 mk true len rows F w be oe B ns ss at_ b o 1 i wr) (fun x6 x26 x27 x28 x29 x30 x31 x32 x33 x34 x35 x36 x37 _ => cap - (intOf x6).toNat)
    case atStart => exact ⟨0, Nat.zero_le _, rfl, hst⟩
    case round =>
      obtain ⟨i, hi, rfl, hA⟩ := hrel
      by_cases hlt : i < cap
      · obtain rfl : a = some ⟨b, o, none⟩ := hbo (by intro e; have := HR.out; subst e; simp at this; omega)
        obtain ⟨cs, ns2, ss2, a2, hcs, hpre, hnext⟩ := hA.next h (by have := HR.out; omega)
        have hc := Hone.out mk true cs F wr be oe B b (o + i * 1) ns2 ss2 a2 (by have := HN.out; omega) hpre
        rw [Nat.mul_one] at hc
        have HC := Lib.hid hc
        clear hc
        go_wp2_with fail
        refine HC.out.mono ?_
        rintro e w2 hp
        obtain ⟨rfl, hA'⟩ := hnext e w2 hp
        go_wp2
        go_roundw
        case rel => exact ⟨i + 1, by omega, by go_num, hA'⟩
        case measure => simp [intOf]; omega
      · have : i = rows.length := by have := HR.out; omega
        have HI := Lib.hid this
        clear this
        go_wp2
        go_end0
        rw [HI.out] at hA
        exact hA.done (cap := cap) (sz := 1)
set_option maxRecDepth 100000 in
set_option maxHeartbeats 1000000 in
theorem all_60 (tab : Nat → List CT) (htab : (tab 4).length = 1) (n : Nat) : AllOK Tryz.prog 3 9 tab n 60 4 := by
  intro one hone hent mk rm sz len cap rows v F w be oe B ns ss at_ hn h
  obtain ⟨nv, sv, hv⟩ := h.eye
  obtain ⟨i0, hi0, hz0, hz1, hz2⟩ := info_parts infoI
  have hB := h.bs
  have hbe := hv.lt
  have hrow := hv.rowN
  have hnr := hv.nameN
  have n1 : nv.ownBlock ≠ some be := fun e => by have := hnr be e; omega
  have hbh : be < w.heap.size := by omega
  obtain ⟨k1, k2, k3⟩ := lim_ok h.ln (by simp [nodes])
  have c0 := hv.cell0
  have f0 := hv.frozen oe
  have c4 := hv.cell4
  obtain ⟨a, hva, hlen, hcap, hrd⟩ : ∃ a, v = .slice a len cap ∧ len ≤ rows.length ∧ rows.length ≤ cap ∧ _ := by simpa only [Rd] using h.rd
  subst hva
  have hnd := nodesRows_len rows
  have hlm := h.ln
  simp only [nodes, lim] at hlm
  have hlt' : be < (w.alloc (Obj.cells #[Value.int IntKind.i64 len] 3)).heap.size := by rw [alloc_size]; omega
  obtain rfl : sz = 1 := h.hsz.trans htab
  obtain ⟨b, o, hbo⟩ := sl_addr h.rd
  have Hone := Lib.hid hone
  clear hone
  have HN := Lib.hid hn
  clear hn
  have hseen : ∀ (w1 : World) (nv' : Value), (w.alloc (Obj.cells #[Value.int IntKind.i64 len] 3)).grownBy w1 nv.ownBlock → w1.ownsRow B 3 1 nv' (ns.length + 1) (ns.map (Value.int .i64) ++ [.int .i64 len]) → Seen 3 9 mk rm 1 [(len : Int)] [] F w be oe B ns ss at_ (w1.setCell ⟨be, oe, none⟩ nv') (ns ++ [(len : Int)]) ss at_ := fun w1 nv' hg hr =>
    seen_push e12 (SeeChg.refl (by obtain ⟨c, e, hb, _⟩ := hv.blk; exact ⟨c, e, hb⟩) h.uf) hv (X := Obj.cells #[Value.int IntKind.i64 len] 3) ⟨hg.os, hg.tape, hg.output, hg.size, hg.block⟩ hr ⟨Int.le_refl _, by omega⟩ (Nat.le_refl 1) hB h.fb (fun _ => ⟨rfl, rfl⟩) h.uf
  cases rm with
  | false =>
    go_enter Tryz.func60, Tryz.ntmps60
    go_wp2_with (at_builtin; refine wpList_append_lies _ rfl _ _ 34 rfl B 3 i0 _ 1 8 Tryz.underlying34 hi0 hz0 hz1 hz2 rfl Nat.one_pos nv _ _ rfl (hrow.alloc _) ⟨w.heap.size, 0, none⟩ 1 1 [.int .i64 len] rfl rfl (World.news_of_block (cs := #[.int .i64 len]) (t := 3) (fr := (0, 0)) (heap_alloc_new w _)) (by simp [Value.oneCell']) Nat.one_pos k1 k2 (Nat.le_trans hB (by simp)) (w.heap.size + 1) (by simp) ?_; intro gg cap' w1 hown1 hgrow hat hlt; have hc1 : w1.cell? ⟨be, oe, none⟩ = some nv := (hgrow.cell_far ⟨be, oe, none⟩ hlt' (Ne.symm n1)).trans ((World.cell?_alloc_past _ _ _ hbh).trans c0); have hfz : w1.frozen? ⟨be, oe, none⟩ = false := (hgrow.frozen_far ⟨be, oe, none⟩ hlt' (Ne.symm n1)).trans ((frozen?_alloc_cells _ _ _ _).trans f0); have hc4 := (hgrow.cell_far ⟨be, oe + 4, none⟩ hlt' (Ne.symm n1)).trans ((World.cell?_alloc_past _ _ _ hbh).trans c4))
    have hst := AllAt.start h hbo (hseen _ _ hgrow hown1)
    go_loopw [6, 26, 27, 28, 29, 30, 31, 32, 33, 34, 35, 36, 37] (fun x6 x26 x27 x28 x29 x30 x31 x32 x33 x34 x35 x36 x37 wr => ∃ i : Nat, i ≤ len ∧ x6 = .int .i64 i ∧ AllAt 3 9 mk false len rows F w be oe B ns ss at_ b o 1 i wr) (fun x6 x26 x27 x28 x29 x30 x31 x32 x33 x34 x35 x36 x37 _ => len - (intOf x6).toNat)
    case atStart => exact ⟨0, Nat.zero_le _, rfl, hst⟩
    case round =>
      obtain ⟨i, hi, rfl, hA⟩ := hrel
      by_cases hlt : i < len
      · obtain rfl : a = some ⟨b, o, none⟩ := hbo (by intro e; subst e; simp at hlen; omega)
        obtain ⟨cs, ns2, ss2, a2, hcs, hpre, hnext⟩ := hA.next h (by omega)
        have hc := Hone.out mk false cs F wr be oe B b (o + i * 1) ns2 ss2 a2 (by have := HN.out; omega) hpre
        rw [Nat.mul_one] at hc
        have HC := Lib.hid hc
        clear hc
        go_wp2_with fail
        refine HC.out.mono ?_
        rintro e w2 hp
        obtain ⟨rfl, hA'⟩ := hnext e w2 hp
        go_wp2
        go_roundw
        case rel => exact ⟨i + 1, by omega, by go_num, hA'⟩
        case measure => simp [intOf]; omega
      · obtain rfl : i = len := by omega
        go_wp2
        go_end0
        exact hA.done (cap := cap) (sz := 1)
  | true =>
    have hrc := (h.room rfl).1
    have hcb : cap ≤ 1099511627776 := by omega
    have HR := Lib.hid hrc
    clear hrc
    go_enter Tryz.func60, Tryz.ntmps60
    go_wp2_with (at_builtin; refine wpList_append_lies _ rfl _ _ 34 rfl B 3 i0 _ 1 8 Tryz.underlying34 hi0 hz0 hz1 hz2 rfl Nat.one_pos nv _ _ rfl (hrow.alloc _) ⟨w.heap.size, 0, none⟩ 1 1 [.int .i64 len] rfl rfl (World.news_of_block (cs := #[.int .i64 len]) (t := 3) (fr := (0, 0)) (heap_alloc_new w _)) (by simp [Value.oneCell']) Nat.one_pos k1 k2 (Nat.le_trans hB (by simp)) (w.heap.size + 1) (by simp) ?_; intro gg cap' w1 hown1 hgrow hat hlt; have hc1 : w1.cell? ⟨be, oe, none⟩ = some nv := (hgrow.cell_far ⟨be, oe, none⟩ hlt' (Ne.symm n1)).trans ((World.cell?_alloc_past _ _ _ hbh).trans c0); have hfz : w1.frozen? ⟨be, oe, none⟩ = false := (hgrow.frozen_far ⟨be, oe, none⟩ hlt' (Ne.symm n1)).trans ((frozen?_alloc_cells _ _ _ _).trans f0); have hc4 := (hgrow.cell_far ⟨be, oe + 4, none⟩ hlt' (Ne.symm n1)).trans ((World.cell?_alloc_past _ _ _ hbh).trans c4))
    have hst := AllAt.start h hbo (hseen _ _ hgrow hown1)
    go_loopw [6, 26, 27, 28, 29, 30, 31, 32, 33, 34, 35, 36, 37] (fun x6 x26 x27 x28 x29 x30 x31 x32 x33 x34 x35 x36 x37 wr => ∃ i : Nat, i ≤ cap ∧ x6 = .int .i64 i ∧ AllAt 3 9 mk true len rows F w be oe B ns ss at_ b o 1 i wr) (fun x6 x26 x27 x28 x29 x30 x31 x32 x33 x34 x35 x36 x37 _ => cap - (intOf x6).toNat)
    case atStart => exact ⟨0, Nat.zero_le _, rfl, hst⟩
    case round =>
      obtain ⟨i, hi, rfl, hA⟩ := hrel
      by_cases hlt : i < cap
      · obtain rfl : a = some ⟨b, o, none⟩ := hbo (by intro e; have := HR.out; subst e; simp at this; omega)
        obtain ⟨cs, ns2, ss2, a2, hcs, hpre, hnext⟩ := hA.next h (by have := HR.out; omega)
        have hc := Hone.out mk true cs F wr be oe B b (o + i * 1) ns2 ss2 a2 (by have := HN.out; omega) hpre
        rw [Nat.mul_one] at hc
        have HC := Lib.hid hc
        clear hc
        go_wp2_with fail
        refine HC.out.mono ?_
        rintro e w2 hp
        obtain ⟨rfl, hA'⟩ := hnext e w2 hp
        go_wp2
        go_roundw
        case rel => exact ⟨i + 1, by omega, by go_num, hA'⟩
        case measure => simp [intOf]; omega
      · have : i = rows.length := by have := HR.out; omega
        have HI := Lib.hid this
        clear this
        go_wp2
        go_end0
        rw [HI.out] at hA
        exact hA.done (cap := cap) (sz := 1)
set_option maxRecDepth 100000 in
set_option maxHeartbeats 1000000 in
theorem all_79 (tab : Nat → List CT) (htab : (tab 5).length = 1) (n : Nat) : AllOK Tryz.prog 3 9 tab n 79 5 := by
  intro one hone hent mk rm sz len cap rows v F w be oe B ns ss at_ hn h
  obtain ⟨nv, sv, hv⟩ := h.eye
  obtain ⟨i0, hi0, hz0, hz1, hz2⟩ := info_parts infoI
  have hB := h.bs
  have hbe := hv.lt
  have hrow := hv.rowN
  have hnr := hv.nameN
  have n1 : nv.ownBlock ≠ some be := fun e => by have := hnr be e; omega
  have hbh : be < w.heap.size := by omega
  obtain ⟨k1, k2, k3⟩ := lim_ok h.ln (by simp [nodes])
  have c0 := hv.cell0
  have f0 := hv.frozen oe
  have c4 := hv.cell4
  obtain ⟨a, hva, hlen, hcap, hrd⟩ : ∃ a, v = .slice a len cap ∧ len ≤ rows.length ∧ rows.length ≤ cap ∧ _ := by simpa only [Rd] using h.rd
  subst hva
  have hnd := nodesRows_len rows
  have hlm := h.ln
  simp only [nodes, lim] at hlm
  have hlt' : be < (w.alloc (Obj.cells #[Value.int IntKind.i64 len] 3)).heap.size := by rw [alloc_size]; omega
  obtain rfl : sz = 1 := h.hsz.trans htab
  obtain ⟨b, o, hbo⟩ := sl_addr h.rd
  have Hone := Lib.hid hone
  clear hone
  have HN := Lib.hid hn
  clear hn
  have hseen : ∀ (w1 : World) (nv' : Value), (w.alloc (Obj.cells #[Value.int IntKind.i64 len] 3)).grownBy w1 nv.ownBlock → w1.ownsRow B 3 1 nv' (ns.length + 1) (ns.map (Value.int .i64) ++ [.int .i64 len]) → Seen 3 9 mk rm 1 [(len : Int)] [] F w be oe B ns ss at_ (w1.setCell ⟨be, oe, none⟩ nv') (ns ++ [(len : Int)]) ss at_ := fun w1 nv' hg hr =>
    seen_push e12 (SeeChg.refl (by obtain ⟨c, e, hb, _⟩ := hv.blk; exact ⟨c, e, hb⟩) h.uf) hv (X := Obj.cells #[Value.int IntKind.i64 len] 3) ⟨hg.os, hg.tape, hg.output, hg.size, hg.block⟩ hr ⟨Int.le_refl _, by omega⟩ (Nat.le_refl 1) hB h.fb (fun _ => ⟨rfl, rfl⟩) h.uf
  cases rm with
  | false =>
    go_enter Tryz.func79, Tryz.ntmps79
    go_wp2_with (at_builtin; refine wpList_append_lies _ rfl _ _ 34 rfl B 3 i0 _ 1 8 Tryz.underlying34 hi0 hz0 hz1 hz2 rfl Nat.one_pos nv _ _ rfl (hrow.alloc _) ⟨w.heap.size, 0, none⟩ 1 1 [.int .i64 len] rfl rfl (World.news_of_block (cs := #[.int .i64 len]) (t := 3) (fr := (0, 0)) (heap_alloc_new w _)) (by simp [Value.oneCell']) Nat.one_pos k1 k2 (Nat.le_trans hB (by simp)) (w.heap.size + 1) (by simp) ?_; intro gg cap' w1 hown1 hgrow hat hlt; have hc1 : w1.cell? ⟨be, oe, none⟩ = some nv := (hgrow.cell_far ⟨be, oe, none⟩ hlt' (Ne.symm n1)).trans ((World.cell?_alloc_past _ _ _ hbh).trans c0); have hfz : w1.frozen? ⟨be, oe, none⟩ = false := (hgrow.frozen_far ⟨be, oe, none⟩ hlt' (Ne.symm n1)).trans ((frozen?_alloc_cells _ _ _ _).trans f0); have hc4 := (hgrow.cell_far ⟨be, oe + 4, none⟩ hlt' (Ne.symm n1)).trans ((World.cell?_alloc_past _ _ _ hbh).trans c4))
    have hst := AllAt.start h hbo (hseen _ _ hgrow hown1)
    go_loopw [6, 26, 27, 28, 29, 30, 31, 32, 33, 34, 35, 36, 37] (fun x6 x26 x27 x28 x29 x30 x31 x32 x33 x34 x35 x36 x37 wr => ∃ i : Nat, i ≤ len ∧ x6 = .int .i64 i ∧ AllAt 3 9 mk false len rows F w be oe B ns ss at_ b o 1 i wr) (fun x6 x26 x27 x28 x29 x30 x31 x32 x33 x34 x35 x36 x37 _ => len - (intOf x6).toNat)
    case atStart => exact ⟨0, Nat.zero_le _, rfl, hst⟩
    case round =>
      obtain ⟨i, hi, rfl, hA⟩ := hrel
      by_cases hlt : i < len
      · obtain rfl : a = some ⟨b, o, none⟩ := hbo (by intro e; subst e; simp at hlen; omega)
        obtain ⟨cs, ns2, ss2, a2, hcs, hpre, hnext⟩ := hA.next h (by omega)
        have hc := Hone.out mk false cs F wr be oe B b (o + i * 1) ns2 ss2 a2 (by have := HN.out; omega) hpre
        rw [Nat.mul_one] at hc
        have HC := Lib.hid hc
        clear hc
        go_wp2_with fail
        refine HC.out.mono ?_
        rintro e w2 hp
        obtain ⟨rfl, hA'⟩ := hnext e w2 hp
        go_wp2
        go_roundw
        case rel => exact ⟨i + 1, by omega, by go_num, hA'⟩
        case measure => simp [intOf]; omega
      · obtain rfl : i = len := by omega
        go_wp2
        go_end0
        exact hA.done (cap := cap) (sz := 1)
  | true =>
    have hrc := (h.room rfl).1
    have hcb : cap ≤ 1099511627776 := by omega
    have HR := Lib.hid hrc
    clear hrc
    go_enter Tryz.func79, Tryz.ntmps79
    go_wp2_with (at_builtin; refine wpList_append_lies _ rfl _ _ 34 rfl B 3 i0 _ 1 8 Tryz.underlying34 hi0 hz0 hz1 hz2 rfl Nat.one_pos nv _ _ rfl (hrow.alloc _) ⟨w.heap.size, 0, none⟩ 1 1 [.int .i64 len] rfl rfl (World.news_of_block (cs := #[.int .i64 len]) (t := 3) (fr := (0, 0)) (heap_alloc_new w _)) (by simp [Value.oneCell']) Nat.one_pos k1 k2 (Nat.le_trans hB (by simp)) (w.heap.size + 1) (by simp) ?_; intro gg cap' w1 hown1 hgrow hat hlt; have hc1 : w1.cell? ⟨be, oe, none⟩ = some nv := (hgrow.cell_far ⟨be, oe, none⟩ hlt' (Ne.symm n1)).trans ((World.cell?_alloc_past _ _ _ hbh).trans c0); have hfz : w1.frozen? ⟨be, oe, none⟩ = false := (hgrow.frozen_far ⟨be, oe, none⟩ hlt' (Ne.symm n1)).trans ((frozen?_alloc_cells _ _ _ _).trans f0); have hc4 := (hgrow.cell_far ⟨be, oe + 4, none⟩ hlt' (Ne.symm n1)).trans ((World.cell?_alloc_past _ _ _ hbh).trans c4))
    have hst := AllAt.start h hbo (hseen _ _ hgrow hown1)
    go_loopw [6, 26, 27, 28, 29, 30, 31, 32, 33, 34, 35, 36, 37] (fun x6 x26 x27 x28 x29 x30 x31 x32 x33 x34 x35 x36 x37 wr => ∃ i : Nat, i ≤ cap ∧ x6 = .int .i64 i ∧ AllAt 3 9 mk true len rows F w be oe B ns ss at_ b o 1 i wr) (fun x6 x26 x27 x28 x29 x30 x31 x32 x33 x34 x35 x36 x37 _ => cap - (intOf x6).toNat)
    case atStart => exact ⟨0, Nat.zero_le _, rfl, hst⟩
    case round =>
      obtain ⟨i, hi, rfl, hA⟩ := hrel
      by_cases hlt : i < cap
      · obtain rfl : a = some ⟨b, o, none⟩ := hbo (by intro e; have := HR.out; subst e; simp at this; omega)
        obtain ⟨cs, ns2, ss2, a2, hcs, hpre, hnext⟩ := hA.next h (by have := HR.out; omega)
        have hc := Hone.out mk true cs F wr be oe B b (o + i * 1) ns2 ss2 a2 (by have := HN.out; omega) hpre
        rw [Nat.mul_one] at hc
        have HC := Lib.hid hc
        clear hc
        go_wp2_with fail
        refine HC.out.mono ?_
        rintro e w2 hp
        obtain ⟨rfl, hA'⟩ := hnext e w2 hp
        go_wp2
        go_roundw
        case rel => exact ⟨i + 1, by omega, by go_num, hA'⟩
        case measure => simp [intOf]; omega
      · have : i = rows.length := by have := HR.out; omega
        have HI := Lib.hid this
        clear this
        go_wp2
        go_end0
        rw [HI.out] at hA
        exact hA.done (cap := cap) (sz := 1)
set_option maxRecDepth 100000 in
set_option maxHeartbeats 1000000 in
theorem all_80 (tab : Nat → List CT) (htab : (tab 45).length = 1) (n : Nat) : AllOK Tryz.prog 3 9 tab n 80 45 := by
  intro one hone hent mk rm sz len cap rows v F w be oe B ns ss at_ hn h
  obtain ⟨nv, sv, hv⟩ := h.eye
  obtain ⟨i0, hi0, hz0, hz1, hz2⟩ := info_parts infoI
  have hB := h.bs
  have hbe := hv.lt
  have hrow := hv.rowN
  have hnr := hv.nameN
  have n1 : nv.ownBlock ≠ some be := fun e => by have := hnr be e; omega
  have hbh : be < w.heap.size := by omega
  obtain ⟨k1, k2, k3⟩ := lim_ok h.ln (by simp [nodes])
  have c0 := hv.cell0
  have f0 := hv.frozen oe
  have c4 := hv.cell4
  obtain ⟨a, hva, hlen, hcap, hrd⟩ : ∃ a, v = .slice a len cap ∧ len ≤ rows.length ∧ rows.length ≤ cap ∧ _ := by simpa only [Rd] using h.rd
  subst hva
  have hnd := nodesRows_len rows
  have hlm := h.ln
  simp only [nodes, lim] at hlm
  have hlt' : be < (w.alloc (Obj.cells #[Value.int IntKind.i64 len] 3)).heap.size := by rw [alloc_size]; omega
  obtain rfl : sz = 1 := h.hsz.trans htab
  obtain ⟨b, o, hbo⟩ := sl_addr h.rd
  have Hone := Lib.hid hone
  clear hone
  have HN := Lib.hid hn
  clear hn
  have hseen : ∀ (w1 : World) (nv' : Value), (w.alloc (Obj.cells #[Value.int IntKind.i64 len] 3)).grownBy w1 nv.ownBlock → w1.ownsRow B 3 1 nv' (ns.length + 1) (ns.map (Value.int .i64) ++ [.int .i64 len]) → Seen 3 9 mk rm 1 [(len : Int)] [] F w be oe B ns ss at_ (w1.setCell ⟨be, oe, none⟩ nv') (ns ++ [(len : Int)]) ss at_ := fun w1 nv' hg hr =>
    seen_push e12 (SeeChg.refl (by obtain ⟨c, e, hb, _⟩ := hv.blk; exact ⟨c, e, hb⟩) h.uf) hv (X := Obj.cells #[Value.int IntKind.i64 len] 3) ⟨hg.os, hg.tape, hg.output, hg.size, hg.block⟩ hr ⟨Int.le_refl _, by omega⟩ (Nat.le_refl 1) hB h.fb (fun _ => ⟨rfl, rfl⟩) h.uf
  cases rm with
  | false =>
    go_enter Tryz.func80, Tryz.ntmps80
    go_wp2_with (at_builtin; refine wpList_append_lies _ rfl _ _ 34 rfl B 3 i0 _ 1 8 Tryz.underlying34 hi0 hz0 hz1 hz2 rfl Nat.one_pos nv _ _ rfl (hrow.alloc _) ⟨w.heap.size, 0, none⟩ 1 1 [.int .i64 len] rfl rfl (World.news_of_block (cs := #[.int .i64 len]) (t := 3) (fr := (0, 0)) (heap_alloc_new w _)) (by simp [Value.oneCell']) Nat.one_pos k1 k2 (Nat.le_trans hB (by simp)) (w.heap.size + 1) (by simp) ?_; intro gg cap' w1 hown1 hgrow hat hlt; have hc1 : w1.cell? ⟨be, oe, none⟩ = some nv := (hgrow.cell_far ⟨be, oe, none⟩ hlt' (Ne.symm n1)).trans ((World.cell?_alloc_past _ _ _ hbh).trans c0); have hfz : w1.frozen? ⟨be, oe, none⟩ = false := (hgrow.frozen_far ⟨be, oe, none⟩ hlt' (Ne.symm n1)).trans ((frozen?_alloc_cells _ _ _ _).trans f0); have hc4 := (hgrow.cell_far ⟨be, oe + 4, none⟩ hlt' (Ne.symm n1)).trans ((World.cell?_alloc_past _ _ _ hbh).trans c4))
    have hst := AllAt.start h hbo (hseen _ _ hgrow hown1)
    go_loopw [6, 26, 27, 28, 29, 30, 31, 32, 33, 34, 35, 36, 37] (fun x6 x26 x27 x28 x29 x30 x31 x32 x33 x34 x35 x36 x37 wr => ∃ i : Nat, i ≤ len ∧ x6 = .int .i64 i ∧ AllAt 3 9 mk false len rows F w be oe B ns ss at_ b o 1 i wr) (fun x6 x26 x27 x28 x29 x30 x31 x32 x33 x34 x35 x36 x37 _ => len - (intOf x6).toNat)
    case atStart => exact ⟨0, Nat.zero_le _, rfl, hst⟩
    case round =>
      obtain ⟨i, hi, rfl, hA⟩ := hrel
      by_cases hlt : i < len
      · obtain rfl : a = some ⟨b, o, none⟩ := hbo (by intro e; subst e; simp at hlen; omega)
        obtain ⟨cs, ns2, ss2, a2, hcs, hpre, hnext⟩ := hA.next h (by omega)
        have hc := Hone.out mk false cs F wr be oe B b (o + i * 1) ns2 ss2 a2 (by have := HN.out; omega) hpre
        rw [Nat.mul_one] at hc
        have HC := Lib.hid hc
        clear hc
        go_wp2_with fail
        refine HC.out.mono ?_
        rintro e w2 hp
        obtain ⟨rfl, hA'⟩ := hnext e w2 hp
        go_wp2
        go_roundw
        case rel => exact ⟨i + 1, by omega, by go_num, hA'⟩
        case measure => simp [intOf]; omega
      · obtain rfl : i = len := by omega
        go_wp2
        go_end0
        exact hA.done (cap := cap) (sz := 1)
  | true =>
    have hrc := (h.room rfl).1
    have hcb : cap ≤ 1099511627776 := by omega
    have HR := Lib.hid hrc
    clear hrc
    go_enter Tryz.func80, Tryz.ntmps80
    go_wp2_with (at_builtin; refine wpList_append_lies _ rfl _ _ 34 rfl B 3 i0 _ 1 8 Tryz.underlying34 hi0 hz0 hz1 hz2 rfl Nat.one_pos nv _ _ rfl (hrow.alloc _) ⟨w.heap.size, 0, none⟩ 1 1 [.int .i64 len] rfl rfl (World.news_of_block (cs := #[.int .i64 len]) (t := 3) (fr := (0, 0)) (heap_alloc_new w _)) (by simp [Value.oneCell']) Nat.one_pos k1 k2 (Nat.le_trans hB (by simp)) (w.heap.size + 1) (by simp) ?_; intro gg cap' w1 hown1 hgrow hat hlt; have hc1 : w1.cell? ⟨be, oe, none⟩ = some nv := (hgrow.cell_far ⟨be, oe, none⟩ hlt' (Ne.symm n1)).trans ((World.cell?_alloc_past _ _ _ hbh).trans c0); have hfz : w1.frozen? ⟨be, oe, none⟩ = false := (hgrow.frozen_far ⟨be, oe, none⟩ hlt' (Ne.symm n1)).trans ((frozen?_alloc_cells _ _ _ _).trans f0); have hc4 := (hgrow.cell_far ⟨be, oe + 4, none⟩ hlt' (Ne.symm n1)).trans ((World.cell?_alloc_past _ _ _ hbh).trans c4))
    have hst := AllAt.start h hbo (hseen _ _ hgrow hown1)
    go_loopw [6, 26, 27, 28, 29, 30, 31, 32, 33, 34, 35, 36, 37] (fun x6 x26 x27 x28 x29 x30 x31 x32 x33 x34 x35 x36 x37 wr => ∃ i : Nat, i ≤ cap ∧ x6 = .int .i64 i ∧ AllAt 3 9 mk true len rows F w be oe B ns ss at_ b o 1 i wr) (fun x6 x26 x27 x28 x29 x30 x31 x32 x33 x34 x35 x36 x37 _ => cap - (intOf x6).toNat)
    case atStart => exact ⟨0, Nat.zero_le _, rfl, hst⟩
    case round =>
      obtain ⟨i, hi, rfl, hA⟩ := hrel
      by_cases hlt : i < cap
      · obtain rfl : a = some ⟨b, o, none⟩ := hbo (by intro e; have := HR.out; subst e; simp at this; omega)
        obtain ⟨cs, ns2, ss2, a2, hcs, hpre, hnext⟩ := hA.next h (by have := HR.out; omega)
        have hc := Hone.out mk true cs F wr be oe B b (o + i * 1) ns2 ss2 a2 (by have := HN.out; omega) hpre
        rw [Nat.mul_one] at hc
        have HC := Lib.hid hc
        clear hc
        go_wp2_with fail
        refine HC.out.mono ?_
        rintro e w2 hp
        obtain ⟨rfl, hA'⟩ := hnext e w2 hp
        go_wp2
        go_roundw
        case rel => exact ⟨i + 1, by omega, by go_num, hA'⟩
        case measure => simp [intOf]; omega
      · have : i = rows.length := by have := HR.out; omega
        have HI := Lib.hid this
        clear this
        go_wp2
        go_end0
        rw [HI.out] at hA
        exact hA.done (cap := cap) (sz := 1)
set_option maxRecDepth 100000 in
set_option maxHeartbeats 1000000 in
theorem all_105 (tab : Nat → List CT) (htab : (tab 132).length = 4) (n : Nat) : AllOK Tryz.prog 3 9 tab n 105 132 := by
  intro one hone hent mk rm sz len cap rows v F w be oe B ns ss at_ hn h
  obtain ⟨nv, sv, hv⟩ := h.eye
  obtain ⟨i0, hi0, hz0, hz1, hz2⟩ := info_parts infoI
  have hB := h.bs
  have hbe := hv.lt
  have hrow := hv.rowN
  have hnr := hv.nameN
  have n1 : nv.ownBlock ≠ some be := fun e => by have := hnr be e; omega
  have hbh : be < w.heap.size := by omega
  obtain ⟨k1, k2, k3⟩ := lim_ok h.ln (by simp [nodes])
  have c0 := hv.cell0
  have f0 := hv.frozen oe
  have c4 := hv.cell4
  obtain ⟨a, hva, hlen, hcap, hrd⟩ : ∃ a, v = .slice a len cap ∧ len ≤ rows.length ∧ rows.length ≤ cap ∧ _ := by simpa only [Rd] using h.rd
  subst hva
  have hnd := nodesRows_len rows
  have hlm := h.ln
  simp only [nodes, lim] at hlm
  have hlt' : be < (w.alloc (Obj.cells #[Value.int IntKind.i64 len] 3)).heap.size := by rw [alloc_size]; omega
  obtain rfl : sz = 4 := h.hsz.trans htab
  obtain ⟨b, o, hbo⟩ := sl_addr h.rd
  have Hone := Lib.hid hone
  clear hone
  have HN := Lib.hid hn
  clear hn
  have hseen : ∀ (w1 : World) (nv' : Value), (w.alloc (Obj.cells #[Value.int IntKind.i64 len] 3)).grownBy w1 nv.ownBlock → w1.ownsRow B 3 1 nv' (ns.length + 1) (ns.map (Value.int .i64) ++ [.int .i64 len]) → Seen 3 9 mk rm 1 [(len : Int)] [] F w be oe B ns ss at_ (w1.setCell ⟨be, oe, none⟩ nv') (ns ++ [(len : Int)]) ss at_ := fun w1 nv' hg hr =>
    seen_push e12 (SeeChg.refl (by obtain ⟨c, e, hb, _⟩ := hv.blk; exact ⟨c, e, hb⟩) h.uf) hv (X := Obj.cells #[Value.int IntKind.i64 len] 3) ⟨hg.os, hg.tape, hg.output, hg.size, hg.block⟩ hr ⟨Int.le_refl _, by omega⟩ (Nat.le_refl 1) hB h.fb (fun _ => ⟨rfl, rfl⟩) h.uf
  cases rm with
  | false =>
    go_enter Tryz.func105, Tryz.ntmps105
    go_wp2_with (at_builtin; refine wpList_append_lies _ rfl _ _ 34 rfl B 3 i0 _ 1 8 Tryz.underlying34 hi0 hz0 hz1 hz2 rfl Nat.one_pos nv _ _ rfl (hrow.alloc _) ⟨w.heap.size, 0, none⟩ 1 1 [.int .i64 len] rfl rfl (World.news_of_block (cs := #[.int .i64 len]) (t := 3) (fr := (0, 0)) (heap_alloc_new w _)) (by simp [Value.oneCell']) Nat.one_pos k1 k2 (Nat.le_trans hB (by simp)) (w.heap.size + 1) (by simp) ?_; intro gg cap' w1 hown1 hgrow hat hlt; have hc1 : w1.cell? ⟨be, oe, none⟩ = some nv := (hgrow.cell_far ⟨be, oe, none⟩ hlt' (Ne.symm n1)).trans ((World.cell?_alloc_past _ _ _ hbh).trans c0); have hfz : w1.frozen? ⟨be, oe, none⟩ = false := (hgrow.frozen_far ⟨be, oe, none⟩ hlt' (Ne.symm n1)).trans ((frozen?_alloc_cells _ _ _ _).trans f0); have hc4 := (hgrow.cell_far ⟨be, oe + 4, none⟩ hlt' (Ne.symm n1)).trans ((World.cell?_alloc_past _ _ _ hbh).trans c4))
    have hst := AllAt.start h hbo (hseen _ _ hgrow hown1)
    go_loopw [6, 26, 27, 28, 29, 30, 31, 32, 33, 34, 35, 36, 37] (fun x6 x26 x27 x28 x29 x30 x31 x32 x33 x34 x35 x36 x37 wr => ∃ i : Nat, i ≤ len ∧ x6 = .int .i64 i ∧ AllAt 3 9 mk false len rows F w be oe B ns ss at_ b o 4 i wr) (fun x6 x26 x27 x28 x29 x30 x31 x32 x33 x34 x35 x36 x37 _ => len - (intOf x6).toNat)
    case atStart => exact ⟨0, Nat.zero_le _, rfl, hst⟩
    case round =>
      obtain ⟨i, hi, rfl, hA⟩ := hrel
      by_cases hlt : i < len
      · obtain rfl : a = some ⟨b, o, none⟩ := hbo (by intro e; subst e; simp at hlen; omega)
        obtain ⟨cs, ns2, ss2, a2, hcs, hpre, hnext⟩ := hA.next h (by omega)
        have hc := Hone.out mk false cs F wr be oe B b (o + i * 4) ns2 ss2 a2 (by have := HN.out; omega) hpre
        have HC := Lib.hid hc
        clear hc
        go_wp2_with fail
        refine HC.out.mono ?_
        rintro e w2 hp
        obtain ⟨rfl, hA'⟩ := hnext e w2 hp
        go_wp2
        go_roundw
        case rel => exact ⟨i + 1, by omega, by go_num, hA'⟩
        case measure => simp [intOf]; omega
      · obtain rfl : i = len := by omega
        go_wp2
        go_end0
        exact hA.done (cap := cap) (sz := 4)
  | true =>
    have hrc := (h.room rfl).1
    have hcb : cap ≤ 1099511627776 := by omega
    have HR := Lib.hid hrc
    clear hrc
    go_enter Tryz.func105, Tryz.ntmps105
    go_wp2_with (at_builtin; refine wpList_append_lies _ rfl _ _ 34 rfl B 3 i0 _ 1 8 Tryz.underlying34 hi0 hz0 hz1 hz2 rfl Nat.one_pos nv _ _ rfl (hrow.alloc _) ⟨w.heap.size, 0, none⟩ 1 1 [.int .i64 len] rfl rfl (World.news_of_block (cs := #[.int .i64 len]) (t := 3) (fr := (0, 0)) (heap_alloc_new w _)) (by simp [Value.oneCell']) Nat.one_pos k1 k2 (Nat.le_trans hB (by simp)) (w.heap.size + 1) (by simp) ?_; intro gg cap' w1 hown1 hgrow hat hlt; have hc1 : w1.cell? ⟨be, oe, none⟩ = some nv := (hgrow.cell_far ⟨be, oe, none⟩ hlt' (Ne.symm n1)).trans ((World.cell?_alloc_past _ _ _ hbh).trans c0); have hfz : w1.frozen? ⟨be, oe, none⟩ = false := (hgrow.frozen_far ⟨be, oe, none⟩ hlt' (Ne.symm n1)).trans ((frozen?_alloc_cells _ _ _ _).trans f0); have hc4 := (hgrow.cell_far ⟨be, oe + 4, none⟩ hlt' (Ne.symm n1)).trans ((World.cell?_alloc_past _ _ _ hbh).trans c4))
    have hst := AllAt.start h hbo (hseen _ _ hgrow hown1)
    go_loopw [6, 26, 27, 28, 29, 30, 31, 32, 33, 34, 35, 36, 37] (fun x6 x26 x27 x28 x29 x30 x31 x32 x33 x34 x35 x36 x37 wr => ∃ i : Nat, i ≤ cap ∧ x6 = .int .i64 i ∧ AllAt 3 9 mk true len rows F w be oe B ns ss at_ b o 4 i wr) (fun x6 x26 x27 x28 x29 x30 x31 x32 x33 x34 x35 x36 x37 _ => cap - (intOf x6).toNat)
    case atStart => exact ⟨0, Nat.zero_le _, rfl, hst⟩
    case round =>
      obtain ⟨i, hi, rfl, hA⟩ := hrel
      by_cases hlt : i < cap
      · obtain rfl : a = some ⟨b, o, none⟩ := hbo (by intro e; have := HR.out; subst e; simp at this; omega)
        obtain ⟨cs, ns2, ss2, a2, hcs, hpre, hnext⟩ := hA.next h (by have := HR.out; omega)
        have hc := Hone.out mk true cs F wr be oe B b (o + i * 4) ns2 ss2 a2 (by have := HN.out; omega) hpre
        have HC := Lib.hid hc
        clear hc
        go_wp2_with fail
        refine HC.out.mono ?_
        rintro e w2 hp
        obtain ⟨rfl, hA'⟩ := hnext e w2 hp
        go_wp2
        go_roundw
        case rel => exact ⟨i + 1, by omega, by go_num, hA'⟩
        case measure => simp [intOf]; omega
      · have : i = rows.length := by have := HR.out; omega
        have HI := Lib.hid this
        clear this
        go_wp2
        go_end0
        rw [HI.out] at hA
        exact hA.done (cap := cap) (sz := 4)
set_option maxRecDepth 100000 in
set_option maxHeartbeats 1000000 in
theorem all_176 (tab : Nat → List CT) (htab : (tab 201).length = 2) (n : Nat) : AllOK Tryz.prog 3 9 tab n 176 201 := by
  intro one hone hent mk rm sz len cap rows v F w be oe B ns ss at_ hn h
  obtain ⟨nv, sv, hv⟩ := h.eye
  obtain ⟨i0, hi0, hz0, hz1, hz2⟩ := info_parts infoI
  have hB := h.bs
  have hbe := hv.lt
  have hrow := hv.rowN
  have hnr := hv.nameN
  have n1 : nv.ownBlock ≠ some be := fun e => by have := hnr be e; omega
  have hbh : be < w.heap.size := by omega
  obtain ⟨k1, k2, k3⟩ := lim_ok h.ln (by simp [nodes])
  have c0 := hv.cell0
  have f0 := hv.frozen oe
  have c4 := hv.cell4
  obtain ⟨a, hva, hlen, hcap, hrd⟩ : ∃ a, v = .slice a len cap ∧ len ≤ rows.length ∧ rows.length ≤ cap ∧ _ := by simpa only [Rd] using h.rd
  subst hva
  have hnd := nodesRows_len rows
  have hlm := h.ln
  simp only [nodes, lim] at hlm
  have hlt' : be < (w.alloc (Obj.cells #[Value.int IntKind.i64 len] 3)).heap.size := by rw [alloc_size]; omega
  obtain rfl : sz = 2 := h.hsz.trans htab
  obtain ⟨b, o, hbo⟩ := sl_addr h.rd
  have Hone := Lib.hid hone
  clear hone
  have HN := Lib.hid hn
  clear hn
  have hseen : ∀ (w1 : World) (nv' : Value), (w.alloc (Obj.cells #[Value.int IntKind.i64 len] 3)).grownBy w1 nv.ownBlock → w1.ownsRow B 3 1 nv' (ns.length + 1) (ns.map (Value.int .i64) ++ [.int .i64 len]) → Seen 3 9 mk rm 1 [(len : Int)] [] F w be oe B ns ss at_ (w1.setCell ⟨be, oe, none⟩ nv') (ns ++ [(len : Int)]) ss at_ := fun w1 nv' hg hr =>
    seen_push e12 (SeeChg.refl (by obtain ⟨c, e, hb, _⟩ := hv.blk; exact ⟨c, e, hb⟩) h.uf) hv (X := Obj.cells #[Value.int IntKind.i64 len] 3) ⟨hg.os, hg.tape, hg.output, hg.size, hg.block⟩ hr ⟨Int.le_refl _, by omega⟩ (Nat.le_refl 1) hB h.fb (fun _ => ⟨rfl, rfl⟩) h.uf
  cases rm with
  | false =>
    go_enter Tryz.func176, Tryz.ntmps176
    go_wp2_with (at_builtin; refine wpList_append_lies _ rfl _ _ 34 rfl B 3 i0 _ 1 8 Tryz.underlying34 hi0 hz0 hz1 hz2 rfl Nat.one_pos nv _ _ rfl (hrow.alloc _) ⟨w.heap.size, 0, none⟩ 1 1 [.int .i64 len] rfl rfl (World.news_of_block (cs := #[.int .i64 len]) (t := 3) (fr := (0, 0)) (heap_alloc_new w _)) (by simp [Value.oneCell']) Nat.one_pos k1 k2 (Nat.le_trans hB (by simp)) (w.heap.size + 1) (by simp) ?_; intro gg cap' w1 hown1 hgrow hat hlt; have hc1 : w1.cell? ⟨be, oe, none⟩ = some nv := (hgrow.cell_far ⟨be, oe, none⟩ hlt' (Ne.symm n1)).trans ((World.cell?_alloc_past _ _ _ hbh).trans c0); have hfz : w1.frozen? ⟨be, oe, none⟩ = false := (hgrow.frozen_far ⟨be, oe, none⟩ hlt' (Ne.symm n1)).trans ((frozen?_alloc_cells _ _ _ _).trans f0); have hc4 := (hgrow.cell_far ⟨be, oe + 4, none⟩ hlt' (Ne.symm n1)).trans ((World.cell?_alloc_past _ _ _ hbh).trans c4))
    have hst := AllAt.start h hbo (hseen _ _ hgrow hown1)
    go_loopw [6, 26, 27, 28, 29, 30, 31, 32, 33, 34, 35, 36, 37] (fun x6 x26 x27 x28 x29 x30 x31 x32 x33 x34 x35 x36 x37 wr => ∃ i : Nat, i ≤ len ∧ x6 = .int .i64 i ∧ AllAt 3 9 mk false len rows F w be oe B ns ss at_ b o 2 i wr) (fun x6 x26 x27 x28 x29 x30 x31 x32 x33 x34 x35 x36 x37 _ => len - (intOf x6).toNat)
    case atStart => exact ⟨0, Nat.zero_le _, rfl, hst⟩
    case round =>
      obtain ⟨i, hi, rfl, hA⟩ := hrel
      by_cases hlt : i < len
      · obtain rfl : a = some ⟨b, o, none⟩ := hbo (by intro e; subst e; simp at hlen; omega)
        obtain ⟨cs, ns2, ss2, a2, hcs, hpre, hnext⟩ := hA.next h (by omega)
        have hc := Hone.out mk false cs F wr be oe B b (o + i * 2) ns2 ss2 a2 (by have := HN.out; omega) hpre
        have HC := Lib.hid hc
        clear hc
        go_wp2_with fail
        refine HC.out.mono ?_
        rintro e w2 hp
        obtain ⟨rfl, hA'⟩ := hnext e w2 hp
        go_wp2
        go_roundw
        case rel => exact ⟨i + 1, by omega, by go_num, hA'⟩
        case measure => simp [intOf]; omega
      · obtain rfl : i = len := by omega
        go_wp2
        go_end0
        exact hA.done (cap := cap) (sz := 2)
  | true =>
    have hrc := (h.room rfl).1
    have hcb : cap ≤ 1099511627776 := by omega
    have HR := Lib.hid hrc
    clear hrc
    go_enter Tryz.func176, Tryz.ntmps176
    go_wp2_with (at_builtin; refine wpList_append_lies _ rfl _ _ 34 rfl B 3 i0 _ 1 8 Tryz.underlying34 hi0 hz0 hz1 hz2 rfl Nat.one_pos nv _ _ rfl (hrow.alloc _) ⟨w.heap.size, 0, none⟩ 1 1 [.int .i64 len] rfl rfl (World.news_of_block (cs := #[.int .i64 len]) (t := 3) (fr := (0, 0)) (heap_alloc_new w _)) (by simp [Value.oneCell']) Nat.one_pos k1 k2 (Nat.le_trans hB (by simp)) (w.heap.size + 1) (by simp) ?_; intro gg cap' w1 hown1 hgrow hat hlt; have hc1 : w1.cell? ⟨be, oe, none⟩ = some nv := (hgrow.cell_far ⟨be, oe, none⟩ hlt' (Ne.symm n1)).trans ((World.cell?_alloc_past _ _ _ hbh).trans c0); have hfz : w1.frozen? ⟨be, oe, none⟩ = false := (hgrow.frozen_far ⟨be, oe, none⟩ hlt' (Ne.symm n1)).trans ((frozen?_alloc_cells _ _ _ _).trans f0); have hc4 := (hgrow.cell_far ⟨be, oe + 4, none⟩ hlt' (Ne.symm n1)).trans ((World.cell?_alloc_past _ _ _ hbh).trans c4))
    have hst := AllAt.start h hbo (hseen _ _ hgrow hown1)
    go_loopw [6, 26, 27, 28, 29, 30, 31, 32, 33, 34, 35, 36, 37] (fun x6 x26 x27 x28 x29 x30 x31 x32 x33 x34 x35 x36 x37 wr => ∃ i : Nat, i ≤ cap ∧ x6 = .int .i64 i ∧ AllAt 3 9 mk true len rows F w be oe B ns ss at_ b o 2 i wr) (fun x6 x26 x27 x28 x29 x30 x31 x32 x33 x34 x35 x36 x37 _ => cap - (intOf x6).toNat)
    case atStart => exact ⟨0, Nat.zero_le _, rfl, hst⟩
    case round =>
      obtain ⟨i, hi, rfl, hA⟩ := hrel
      by_cases hlt : i < cap
      · obtain rfl : a = some ⟨b, o, none⟩ := hbo (by intro e; have := HR.out; subst e; simp at this; omega)
        obtain ⟨cs, ns2, ss2, a2, hcs, hpre, hnext⟩ := hA.next h (by have := HR.out; omega)
        have hc := Hone.out mk true cs F wr be oe B b (o + i * 2) ns2 ss2 a2 (by have := HN.out; omega) hpre
        have HC := Lib.hid hc
        clear hc
        go_wp2_with fail
        refine HC.out.mono ?_
        rintro e w2 hp
        obtain ⟨rfl, hA'⟩ := hnext e w2 hp
        go_wp2
        go_roundw
        case rel => exact ⟨i + 1, by omega, by go_num, hA'⟩
        case measure => simp [intOf]; omega
      · have : i = rows.length := by have := HR.out; omega
        have HI := Lib.hid this
        clear this
        go_wp2
        go_end0
        rw [HI.out] at hA
        exact hA.done (cap := cap) (sz := 2)
end Go.Proofs.YtgkamgijnhbcbaaGreatDoor
