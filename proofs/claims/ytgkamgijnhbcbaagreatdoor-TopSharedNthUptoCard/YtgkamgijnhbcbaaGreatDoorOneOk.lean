/- The console: one order is done. -/
import Derived.Test.YtgkamgijnhbcbaaGreatDoorCreate
import Derived.Test.YtgkamgijnhbcbaaGreatDoorForms
import Derived.Test.YtgkamgijnhbcbaaGreatDoorGen
import Derived.WalkKit
import Derived.WalkSpells
import Derived.WalkLawsBesides
import Derived.Deep.RegionWith
import Derived.Deep.DeepCutAuto
import Derived.RegionTactic
namespace Go.Proofs.YtgkamgijnhbcbaaGreatDoor
open Go.RowKit Go.Proofs
open Go.Vt
theorem mk56 (t : Nat → Value) : mk 56 t = (t 0 :: t 1 :: t 2 :: t 3 :: t 4 :: t 5 :: t 6 :: t 7 :: t 8 :: t 9 :: t 10 :: t 11 :: t 12 :: t 13 :: t 14 :: t 15 :: t 16 :: t 17 :: t 18 :: t 19 :: t 20 :: t 21 :: t 22 :: t 23 :: t 24 :: t 25 :: t 26 :: t 27 :: t 28 :: t 29 :: t 30 :: t 31 :: t 32 :: t 33 :: t 34 :: t 35 :: t 36 :: t 37 :: t 38 :: t 39 :: t 40 :: t 41 :: t 42 :: t 43 :: t 44 :: t 45 :: t 46 :: t 47 :: t 48 :: t 49 :: t 50 :: t 51 :: t 52 :: t 53 :: t 54 :: t 55 :: []).toArray := rfl
theorem Node.row_other {w : World} {g b : Nat} (h : Node w g) (hg : g ≠ b) (cs : Array Value) : Node (w.setRow b cs) g :=
  ⟨by rw [setRow_size]; exact h.lt, (cell_setRow_other _ _ _ ⟨g, 0, none⟩ hg).trans h.c0, (cell_setRow_other _ _ _ ⟨g, 1, none⟩ hg).trans h.c1, (cell_setRow_other _ _ _ ⟨g, 2, none⟩ hg).trans h.c2, (cell_setRow_other _ _ _ ⟨g, 3, none⟩ hg).trans h.c3⟩
/-- What the call hands back. -/
def OneP (e : Ending) : Prop := ∃ a n c, e = .returned (.tuple #[.agg #[.string ⟨#[104, 101, 114, 101]⟩, .slice a n c, .slice none 0 0, .int .i64 0, .int .i64 800], .agg #[.int .i64 0, .int .i64 1, .slice none 0 0, .slice none 0 0], .int .i64 0])
set_option maxRecDepth 100000 in
set_option maxHeartbeats 2000000 in
theorem one_ok (w : World) (g : Nat) (h : Node w g) : Calls Tryz.prog 154 #[.agg #[.string ⟨#[104, 101, 114, 101]⟩, .slice (some ⟨g, 0, none⟩) 1 1, .slice none 0 0, .int .i64 0, .int .i64 800], .agg #[.int .u8 1, .int .i64 0, .int .i64 0, .string ⟨#[112]⟩, .string ⟨#[]⟩]] w fun e w' => OneP e ∧ Below w.heap.size w w' := by
  go_enter Tryz.func154, Tryz.ntmps154
  go_wp2_with fail
  refine (valid_doc _ g 1 (by omega) ((((h.alloc _).alloc _).alloc _).alloc _)).mono ?_
  rintro e w1 ⟨rfl, hb⟩
  have hB := Lies.keep ((by repeat (first | exact Lies.here (by simp) (by omega) (by repeat (first | exact Below.refl _ _ | refine below_drew ?_ | refine below_alloc _ ?_ (by first | omega | (simp <;> omega)))) | refine Lies.drew ?_ | refine Lies.alloc ?_ (by omega) _)) : Lies w.heap.size w _ w.heap.size (.cells #[.string ⟨#[104, 101, 114, 101]⟩, .slice (some ⟨g, 0, none⟩) 1 1, .slice none 0 0, .int .i64 0, .int .i64 800] 150 (0, 0))) (by omega) hb
  have hC := Lies.keep ((by repeat (first | exact Lies.here (by simp) (by omega) (by repeat (first | exact Below.refl _ _ | refine below_drew ?_ | refine below_alloc _ ?_ (by first | omega | (simp <;> omega)))) | refine Lies.drew ?_ | refine Lies.alloc ?_ (by omega) _)) : Lies w.heap.size w _ (w.heap.size + 1) (.cells #[.int .u8 1, .int .i64 0, .int .i64 0, .string ⟨#[112]⟩, .string ⟨#[]⟩] 188 (0, 0))) (by omega) hb
  have hO := Lies.keep ((by repeat (first | exact Lies.here (by simp) (by omega) (by repeat (first | exact Below.refl _ _ | refine below_drew ?_ | refine below_alloc _ ?_ (by first | omega | (simp <;> omega)))) | refine Lies.drew ?_ | refine Lies.alloc ?_ (by omega) _)) : Lies w.heap.size w _ (w.heap.size + 1 + 1) (.cells #[.string ⟨#[]⟩, .slice none 0 0, .slice none 0 0, .int .i64 0, .int .i64 0] 150 (0, 0))) (by omega) hb
  have hP := Lies.keep ((by repeat (first | exact Lies.here (by simp) (by omega) (by repeat (first | exact Below.refl _ _ | refine below_drew ?_ | refine below_alloc _ ?_ (by first | omega | (simp <;> omega)))) | refine Lies.drew ?_ | refine Lies.alloc ?_ (by omega) _)) : Lies w.heap.size w _ (w.heap.size + 1 + 1 + 1) (.cells #[.int .i64 0, .int .i64 0, .slice none 0 0, .slice none 0 0] 229 (0, 0))) (by omega) hb
  have hn := ((((h.alloc _).alloc _).alloc _).alloc _).keep hb
  clear hb
  have b0 : (w1).cell? ⟨w.heap.size, 0, none⟩ = some (.string ⟨#[104, 101, 114, 101]⟩) := cell_of_row _ _ 0 _ _ _ hB.1
  have b1 : (w1).cell? ⟨w.heap.size, 1, none⟩ = some (.slice (some ⟨g, 0, none⟩) 1 1) := cell_of_row _ _ 1 _ _ _ hB.1
  have b2 : (w1).cell? ⟨w.heap.size, 2, none⟩ = some (.slice none 0 0) := cell_of_row _ _ 2 _ _ _ hB.1
  have b3 : (w1).cell? ⟨w.heap.size, 3, none⟩ = some (.int .i64 0) := cell_of_row _ _ 3 _ _ _ hB.1
  have b4 : (w1).cell? ⟨w.heap.size, 4, none⟩ = some (.int .i64 800) := cell_of_row _ _ 4 _ _ _ hB.1
  have c0 : (w1).cell? ⟨(w.heap.size + 1), 0, none⟩ = some (.int .u8 1) := cell_of_row _ _ 0 _ _ _ hC.1
  have c1 : (w1).cell? ⟨(w.heap.size + 1), 1, none⟩ = some (.int .i64 0) := cell_of_row _ _ 1 _ _ _ hC.1
  have c2 : (w1).cell? ⟨(w.heap.size + 1), 2, none⟩ = some (.int .i64 0) := cell_of_row _ _ 2 _ _ _ hC.1
  have c3 : (w1).cell? ⟨(w.heap.size + 1), 3, none⟩ = some (.string ⟨#[112]⟩) := cell_of_row _ _ 3 _ _ _ hC.1
  have c4 : (w1).cell? ⟨(w.heap.size + 1), 4, none⟩ = some (.string ⟨#[]⟩) := cell_of_row _ _ 4 _ _ _ hC.1
  go_wp2_with fail
  clear b0 b1 b2 b3 b4 c0 c1 c2 c3 c4
  refine (twin_doc _ g 1 (by omega) hn).mono ?_
  rintro e w2 ⟨⟨g2, k2, rfl, hk2, hn2⟩, hb⟩
  replace hB := hB.keep (by omega) hb
  replace hC := hC.keep (by omega) hb
  replace hO := hO.keep (by omega) hb
  replace hP := hP.keep (by omega) hb
  clear hb hn
  have l3 := hP.lt
  have lc := hC.lt
  have b0 : (w2).cell? ⟨w.heap.size, 0, none⟩ = some (.string ⟨#[104, 101, 114, 101]⟩) := cell_of_row _ _ 0 _ _ _ hB.1
  have b1 : (w2).cell? ⟨w.heap.size, 1, none⟩ = some (.slice (some ⟨g, 0, none⟩) 1 1) := cell_of_row _ _ 1 _ _ _ hB.1
  have b2 : (w2).cell? ⟨w.heap.size, 2, none⟩ = some (.slice none 0 0) := cell_of_row _ _ 2 _ _ _ hB.1
  have b3 : (w2).cell? ⟨w.heap.size, 3, none⟩ = some (.int .i64 0) := cell_of_row _ _ 3 _ _ _ hB.1
  have b4 : (w2).cell? ⟨w.heap.size, 4, none⟩ = some (.int .i64 800) := cell_of_row _ _ 4 _ _ _ hB.1
  have c0 : (w2).cell? ⟨(w.heap.size + 1), 0, none⟩ = some (.int .u8 1) := cell_of_row _ _ 0 _ _ _ hC.1
  have c1 : (w2).cell? ⟨(w.heap.size + 1), 1, none⟩ = some (.int .i64 0) := cell_of_row _ _ 1 _ _ _ hC.1
  have c2 : (w2).cell? ⟨(w.heap.size + 1), 2, none⟩ = some (.int .i64 0) := cell_of_row _ _ 2 _ _ _ hC.1
  have c3 : (w2).cell? ⟨(w.heap.size + 1), 3, none⟩ = some (.string ⟨#[112]⟩) := cell_of_row _ _ 3 _ _ _ hC.1
  have c4 : (w2).cell? ⟨(w.heap.size + 1), 4, none⟩ = some (.string ⟨#[]⟩) := cell_of_row _ _ 4 _ _ _ hC.1
  go_wp2_with fail
  have hY : Lies w.heap.size w _ w2.heap.size (.cells #[.string ⟨#[104, 101, 114, 101]⟩, .slice (some ⟨g2, 0, none⟩) 1 k2, .slice none 0 0, .int .i64 0, .int .i64 800] 150 (0, 0)) := Lies.next hB.2 (by omega) (Obj.cells #[.string ⟨#[104, 101, 114, 101]⟩, .slice (some ⟨g2, 0, none⟩) 1 k2, .slice none 0 0, .int .i64 0, .int .i64 800] 150)
  refine (check_call _).mono ?_
  rintro e w3 ⟨rfl, hb⟩
  clear b0 b1 b2 b3 b4 c0 c1 c2 c3 c4
  replace hY := hY.keep (by omega) hb
  replace hC := (hC.alloc (by omega) _).keep (by omega) hb
  replace hO := (hO.alloc (by omega) _).keep (by omega) hb
  replace hP := (hP.alloc (by omega) _).keep (by omega) hb
  replace hn2 := (hn2.alloc _).keep hb
  clear hb hB
  have ly := hY.lt
  have c0 : (w3).cell? ⟨(w.heap.size + 1), 0, none⟩ = some (.int .u8 1) := cell_of_row _ _ 0 _ _ _ hC.1
  have c1 : (w3).cell? ⟨(w.heap.size + 1), 1, none⟩ = some (.int .i64 0) := cell_of_row _ _ 1 _ _ _ hC.1
  have c2 : (w3).cell? ⟨(w.heap.size + 1), 2, none⟩ = some (.int .i64 0) := cell_of_row _ _ 2 _ _ _ hC.1
  have c3 : (w3).cell? ⟨(w.heap.size + 1), 3, none⟩ = some (.string ⟨#[112]⟩) := cell_of_row _ _ 3 _ _ _ hC.1
  have c4 : (w3).cell? ⟨(w.heap.size + 1), 4, none⟩ = some (.string ⟨#[]⟩) := cell_of_row _ _ 4 _ _ _ hC.1
  have y0 : (w3).cell? ⟨w2.heap.size, 0, none⟩ = some (.string ⟨#[104, 101, 114, 101]⟩) := cell_of_row _ _ 0 _ _ _ hY.1
  have y1 : (w3).cell? ⟨w2.heap.size, 1, none⟩ = some (.slice (some ⟨g2, 0, none⟩) 1 k2) := cell_of_row _ _ 1 _ _ _ hY.1
  have y2 : (w3).cell? ⟨w2.heap.size, 2, none⟩ = some (.slice none 0 0) := cell_of_row _ _ 2 _ _ _ hY.1
  have y3 : (w3).cell? ⟨w2.heap.size, 3, none⟩ = some (.int .i64 0) := cell_of_row _ _ 3 _ _ _ hY.1
  have y4 : (w3).cell? ⟨w2.heap.size, 4, none⟩ = some (.int .i64 800) := cell_of_row _ _ 4 _ _ _ hY.1
  go_wp2_with fail
  go_cut [9, 11, 12] (fun s9 s11 s12 wx => s9 = .int .i64 0 ∧ ∃ b1 b2, s11 = .pointer (some ⟨b1, 0, none⟩) ∧ s12 = .pointer (some ⟨b2, 0, none⟩) ∧ ∃ a n cc, Lies w.heap.size w wx b1 (.cells #[.string ⟨#[104, 101, 114, 101]⟩, .slice a n cc, .slice none 0 0, .int .i64 0, .int .i64 800] 150 (0, 0)) ∧ Lies w.heap.size w wx b2 (.cells #[.int .i64 0, .int .i64 1, .slice none 0 0, .slice none 0 0] 229 (0, 0)) ∧ Lies w.heap.size w wx (w.heap.size + 1 + 1) (.cells #[.string ⟨#[]⟩, .slice none 0 0, .slice none 0 0, .int .i64 0, .int .i64 0] 150 (0, 0)) ∧ Lies w.heap.size w wx (w.heap.size + 1 + 1 + 1) (.cells #[.int .i64 0, .int .i64 0, .slice none 0 0, .slice none 0 0] 229 (0, 0)) ∧ (w.heap.size + 1 + 1 + 1) < b1 ∧ (w.heap.size + 1 + 1 + 1) < b2)
  case first =>
    refine wp_region_plan [38, 39, 40, 41, 42, 43, 44, 45, 37, 46, 47, 48, 11, 12, 9] 56 (fun (L : Nat → Bool) (t : Nat → Value) (W : World) => Lies w.heap.size w W w2.heap.size (.cells #[.string ⟨#[104, 101, 114, 101]⟩, .slice (some ⟨g2, 0, none⟩) 1 k2, .slice none 0 0, .int .i64 0, .int .i64 800] 150 (0, 0)) ∧ Lies w.heap.size w W (w.heap.size + 1) (.cells #[.int .u8 1, .int .i64 0, .int .i64 0, .string ⟨#[112]⟩, .string ⟨#[]⟩] 188 (0, 0)) ∧ Lies w.heap.size w W (w.heap.size + 1 + 1) (.cells #[.string ⟨#[]⟩, .slice none 0 0, .slice none 0 0, .int .i64 0, .int .i64 0] 150 (0, 0)) ∧ Lies w.heap.size w W (w.heap.size + 1 + 1 + 1) (.cells #[.int .i64 0, .int .i64 0, .slice none 0 0, .slice none 0 0] 229 (0, 0)) ∧ Node W g2 ∧ w3.heap.size ≤ W.heap.size ∧ ((L 14 = true → L 12 = true) ∧ (L 15 = true → L 13 = true)) ∧ (L 0 = true → ∃ p, t 38 = .agg (opsArr p)) ∧ (L 1 = true → t 39 = .pointer (some ⟨(w.heap.size + 1), 0, none⟩)) ∧ (L 2 = true → t 40 = .int .u8 1) ∧ (L 3 = true → t 41 = .agg #[.bool false, .bool false, .bool true, .bool false, .func (.func 228) #[] #[]]) ∧ (L 4 = true → t 42 = .func (.func 228) #[] #[]) ∧ (L 5 = true → t 43 = .agg #[.string ⟨#[104, 101, 114, 101]⟩, .slice (some ⟨g2, 0, none⟩) 1 k2, .slice none 0 0, .int .i64 0, .int .i64 800]) ∧ (L 6 = true → t 44 = .agg #[.int .u8 1, .int .i64 0, .int .i64 0, .string ⟨#[112]⟩, .string ⟨#[]⟩]) ∧ (L 7 = true → ∃ a n cc, t 45 = .tuple #[.agg #[.string ⟨#[104, 101, 114, 101]⟩, .slice a n cc, .slice none 0 0, .int .i64 0, .int .i64 800], .agg #[.int .i64 0, .int .i64 1, .slice none 0 0, .slice none 0 0], .int .i64 0]) ∧ (L 8 = true → ∃ a n cc, t 37 = .tuple #[.agg #[.string ⟨#[104, 101, 114, 101]⟩, .slice a n cc, .slice none 0 0, .int .i64 0, .int .i64 800], .agg #[.int .i64 0, .int .i64 1, .slice none 0 0, .slice none 0 0], .int .i64 0]) ∧ (L 9 = true → ∃ a n cc, t 46 = .agg #[.string ⟨#[104, 101, 114, 101]⟩, .slice a n cc, .slice none 0 0, .int .i64 0, .int .i64 800]) ∧ (L 10 = true → t 47 = .agg #[.int .i64 0, .int .i64 1, .slice none 0 0, .slice none 0 0]) ∧ (L 11 = true → t 48 = .int .i64 0) ∧ (L 12 = true → ∃ b cs, t 11 = .pointer (some ⟨b, 0, none⟩) ∧ w3.heap.size ≤ b ∧ W.heap[b]? = some (.cells cs 150 (0, 0)) ∧ cs.size = 5) ∧ (L 13 = true → ∃ b cs, t 12 = .pointer (some ⟨b, 0, none⟩) ∧ w3.heap.size ≤ b ∧ W.heap[b]? = some (.cells cs 229 (0, 0)) ∧ cs.size = 4) ∧ (L 14 = true → ∃ b a n cc, t 11 = .pointer (some ⟨b, 0, none⟩) ∧ W.heap[b]? = some (.cells #[.string ⟨#[104, 101, 114, 101]⟩, .slice a n cc, .slice none 0 0, .int .i64 0, .int .i64 800] 150 (0, 0))) ∧ (L 15 = true → ∃ b, t 12 = .pointer (some ⟨b, 0, none⟩) ∧ W.heap[b]? = some (.cells #[.int .i64 0, .int .i64 1, .slice none 0 0, .slice none 0 0] 229 (0, 0))) ∧ (L 16 = true → t 9 = .int .i64 0)) (by kernel_rfl) (by kernel_rfl) rfl ?start ?steps ?last
    case start => exact ⟨hY.drew, hC.drew, hO.drew, hP.drew, hn2.keep (below_drew (Below.refl _ _)), Nat.le_refl _, ⟨fun g => by simp at g, fun g => by simp at g⟩, fun g => by simp at g, fun g => by simp at g, fun g => by simp at g, fun g => by simp at g, fun g => by simp at g, fun g => by simp at g, fun g => by simp at g, fun g => by simp at g, fun g => by simp at g, fun g => by simp at g, fun g => by simp at g, fun g => by simp at g, fun g => by simp at g, fun g => by simp at g, fun g => by simp at g, fun g => by simp at g, fun g => by simp at g⟩
    case steps =>
      refine .cons (j := 1) rfl ?_ (.cons (j := 2) rfl ?_ (.cons (j := 3) rfl ?_ (.cons (j := 4) rfl ?_ (.cons (j := 5) rfl ?_ (.cons (j := 6) rfl ?_ (.cons (j := 7) rfl ?_ (.cons (j := 8) rfl ?_ (.cons (j := 9) rfl ?_ (.cons (j := 10) rfl ?_ (.cons (j := 11) rfl ?_ (.cons (j := 12) rfl ?_ (.cons (j := 13) rfl ?_ (.cons (j := 14) rfl ?_ (.cons (j := 15) rfl ?_ (.cons (j := 16) rfl ?_ (.cons (j := 17) rfl ?_ (.nil)))))))))))))))))
      · rintro L t W ⟨hU, sY, sC, sO, sP, sn, sz, cl, h0, h1, h2, h3, h4, h5, h6, h7, h8, h9, h10, h11, h12, h13, h14, h15, h16⟩ hi hd R hR
        have HR := Lib.hid hR
        clear hR
        rw [mk56]
        go_wp2_with fail
        refine (ops_ok _).mono ?_
        rintro e W2 ⟨⟨p, rfl⟩, hb⟩
        dsimp only
        go_wp2_with fail
        refine ⟨upd t 38 (.agg (opsArr p)), by rw [mk56]; simp [upd], HR.out _ _ ⟨hU.upd 38 _ (by decide), sY.keep (by omega) hb, sC.keep (by omega) hb, sO.keep (by omega) hb, sP.keep (by omega) hb, sn.keep hb, Nat.le_trans sz hb.size, (by simpa using cl), fun _ => ⟨p, rfl⟩, fun g => h1 (by simpa using g), fun g => h2 (by simpa using g), fun g => h3 (by simpa using g), fun g => h4 (by simpa using g), fun g => h5 (by simpa using g), fun g => h6 (by simpa using g), fun g => h7 (by simpa using g), fun g => h8 (by simpa using g), fun g => h9 (by simpa using g), fun g => h10 (by simpa using g), fun g => h11 (by simpa using g), fun g => (by obtain ⟨b, cs, x1, x2, x3, x4⟩ := (h12 (by simpa using g)); exact ⟨b, cs, x1, x2, kept_blk hb x3, x4⟩), fun g => (by obtain ⟨b, cs, x1, x2, x3, x4⟩ := (h13 (by simpa using g)); exact ⟨b, cs, x1, x2, kept_blk hb x3, x4⟩), fun g => (by obtain ⟨b, a, n, cc, x1, x3⟩ := (h14 (by simpa using g)); exact ⟨b, a, n, cc, x1, kept_blk hb x3⟩), fun g => (by obtain ⟨b, x1, x3⟩ := (h15 (by simpa using g)); exact ⟨b, x1, kept_blk hb x3⟩), fun g => h16 (by simpa using g)⟩⟩
      · rintro L t W ⟨hU, sY, sC, sO, sP, sn, sz, cl, h0, h1, h2, h3, h4, h5, h6, h7, h8, h9, h10, h11, h12, h13, h14, h15, h16⟩ hi hd R hR
        have b3 : t 3 = .pointer (some ⟨(w.heap.size + 1), 0, none⟩) := hU 3 (by decide)
        have HR := Lib.hid hR
        clear hR
        rw [mk56]
        go_wp2_with fail
        refine ⟨upd t 39 (.pointer (some ⟨(w.heap.size + 1), 0, none⟩)), by rw [mk56]; simp [upd, b3], HR.out _ _ ⟨hU.upd 39 _ (by decide), sY, sC, sO, sP, sn, sz, (by simpa using cl), fun g => h0 (by simpa using g), fun _ => rfl, fun g => h2 (by simpa using g), fun g => h3 (by simpa using g), fun g => h4 (by simpa using g), fun g => h5 (by simpa using g), fun g => h6 (by simpa using g), fun g => h7 (by simpa using g), fun g => h8 (by simpa using g), fun g => h9 (by simpa using g), fun g => h10 (by simpa using g), fun g => h11 (by simpa using g), fun g => h12 (by simpa using g), fun g => h13 (by simpa using g), fun g => h14 (by simpa using g), fun g => h15 (by simpa using g), fun g => h16 (by simpa using g)⟩⟩
      · rintro L t W ⟨hU, sY, sC, sO, sP, sn, sz, cl, h0, h1, h2, h3, h4, h5, h6, h7, h8, h9, h10, h11, h12, h13, h14, h15, h16⟩ hi hd R hR
        have f1 := h1 (hd 1 (by kernel_rfl))
        have c0 : (W).cell? ⟨(w.heap.size + 1), 0, none⟩ = some (.int .u8 1) := cell_of_row _ _ 0 _ _ _ sC.1
        have c1 : (W).cell? ⟨(w.heap.size + 1), 1, none⟩ = some (.int .i64 0) := cell_of_row _ _ 1 _ _ _ sC.1
        have c2 : (W).cell? ⟨(w.heap.size + 1), 2, none⟩ = some (.int .i64 0) := cell_of_row _ _ 2 _ _ _ sC.1
        have c3 : (W).cell? ⟨(w.heap.size + 1), 3, none⟩ = some (.string ⟨#[112]⟩) := cell_of_row _ _ 3 _ _ _ sC.1
        have c4 : (W).cell? ⟨(w.heap.size + 1), 4, none⟩ = some (.string ⟨#[]⟩) := cell_of_row _ _ 4 _ _ _ sC.1
        have HR := Lib.hid hR
        clear hR
        rw [mk56]
        go_wp2_with fail
        refine ⟨upd t 40 (.int .u8 1), by rw [mk56]; simp [upd, f1], HR.out _ _ ⟨hU.upd 40 _ (by decide), sY, sC, sO, sP, sn, sz, (by simpa using cl), fun g => h0 (by simpa using g), fun g => h1 (by simpa using g), fun _ => rfl, fun g => h3 (by simpa using g), fun g => h4 (by simpa using g), fun g => h5 (by simpa using g), fun g => h6 (by simpa using g), fun g => h7 (by simpa using g), fun g => h8 (by simpa using g), fun g => h9 (by simpa using g), fun g => h10 (by simpa using g), fun g => h11 (by simpa using g), fun g => h12 (by simpa using g), fun g => h13 (by simpa using g), fun g => h14 (by simpa using g), fun g => h15 (by simpa using g), fun g => h16 (by simpa using g)⟩⟩
      · rintro L t W ⟨hU, sY, sC, sO, sP, sn, sz, cl, h0, h1, h2, h3, h4, h5, h6, h7, h8, h9, h10, h11, h12, h13, h14, h15, h16⟩ hi hd R hR
        have f0 := h0 (hd 0 (by kernel_rfl))
        have f2 := h2 (hd 2 (by kernel_rfl))
        obtain ⟨p, f0⟩ := f0
        have i1 : ∀ (W : World), (Instr.index 276 (.agg (opsArr p)) (.int .u8 1)).run Tryz.prog W = .ok (.agg #[.bool false, .bool false, .bool true, .bool false, .func (.func 228) #[] #[]]) W := by intro W; kernel_rfl
        have HR := Lib.hid hR
        clear hR
        rw [mk56]
        go_wp2_with fail
        refine ⟨upd t 41 (.agg #[.bool false, .bool false, .bool true, .bool false, .func (.func 228) #[] #[]]), by rw [mk56]; simp [upd, f0, f2], HR.out _ _ ⟨hU.upd 41 _ (by decide), sY, sC, sO, sP, sn, sz, (by simpa using cl), fun g => h0 (by simpa using g), fun g => h1 (by simpa using g), fun g => h2 (by simpa using g), fun _ => rfl, fun g => h4 (by simpa using g), fun g => h5 (by simpa using g), fun g => h6 (by simpa using g), fun g => h7 (by simpa using g), fun g => h8 (by simpa using g), fun g => h9 (by simpa using g), fun g => h10 (by simpa using g), fun g => h11 (by simpa using g), fun g => h12 (by simpa using g), fun g => h13 (by simpa using g), fun g => h14 (by simpa using g), fun g => h15 (by simpa using g), fun g => h16 (by simpa using g)⟩⟩
      · rintro L t W ⟨hU, sY, sC, sO, sP, sn, sz, cl, h0, h1, h2, h3, h4, h5, h6, h7, h8, h9, h10, h11, h12, h13, h14, h15, h16⟩ hi hd R hR
        have f3 := h3 (hd 3 (by kernel_rfl))
        have i2 : ∀ (W : World), (Instr.field 275 (.agg #[.bool false, .bool false, .bool true, .bool false, .func (.func 228) #[] #[]]) 4).run Tryz.prog W = .ok (.func (.func 228) #[] #[]) W := by intro W; kernel_rfl
        have HR := Lib.hid hR
        clear hR
        rw [mk56]
        go_wp2_with fail
        refine ⟨upd t 42 (.func (.func 228) #[] #[]), by rw [mk56]; simp [upd, f3], HR.out _ _ ⟨hU.upd 42 _ (by decide), sY, sC, sO, sP, sn, sz, (by simpa using cl), fun g => h0 (by simpa using g), fun g => h1 (by simpa using g), fun g => h2 (by simpa using g), fun g => h3 (by simpa using g), fun _ => rfl, fun g => h5 (by simpa using g), fun g => h6 (by simpa using g), fun g => h7 (by simpa using g), fun g => h8 (by simpa using g), fun g => h9 (by simpa using g), fun g => h10 (by simpa using g), fun g => h11 (by simpa using g), fun g => h12 (by simpa using g), fun g => h13 (by simpa using g), fun g => h14 (by simpa using g), fun g => h15 (by simpa using g), fun g => h16 (by simpa using g)⟩⟩
      · rintro L t W ⟨hU, sY, sC, sO, sP, sn, sz, cl, h0, h1, h2, h3, h4, h5, h6, h7, h8, h9, h10, h11, h12, h13, h14, h15, h16⟩ hi hd R hR
        have b8 : t 8 = .pointer (some ⟨w2.heap.size, 0, none⟩) := hU 8 (by decide)
        have y0 : (W).cell? ⟨w2.heap.size, 0, none⟩ = some (.string ⟨#[104, 101, 114, 101]⟩) := cell_of_row _ _ 0 _ _ _ sY.1
        have y1 : (W).cell? ⟨w2.heap.size, 1, none⟩ = some (.slice (some ⟨g2, 0, none⟩) 1 k2) := cell_of_row _ _ 1 _ _ _ sY.1
        have y2 : (W).cell? ⟨w2.heap.size, 2, none⟩ = some (.slice none 0 0) := cell_of_row _ _ 2 _ _ _ sY.1
        have y3 : (W).cell? ⟨w2.heap.size, 3, none⟩ = some (.int .i64 0) := cell_of_row _ _ 3 _ _ _ sY.1
        have y4 : (W).cell? ⟨w2.heap.size, 4, none⟩ = some (.int .i64 800) := cell_of_row _ _ 4 _ _ _ sY.1
        have HR := Lib.hid hR
        clear hR
        rw [mk56]
        go_wp2_with fail
        refine ⟨upd t 43 (.agg #[.string ⟨#[104, 101, 114, 101]⟩, .slice (some ⟨g2, 0, none⟩) 1 k2, .slice none 0 0, .int .i64 0, .int .i64 800]), by rw [mk56]; simp [upd, b8], HR.out _ _ ⟨hU.upd 43 _ (by decide), sY, sC, sO, sP, sn, sz, (by simpa using cl), fun g => h0 (by simpa using g), fun g => h1 (by simpa using g), fun g => h2 (by simpa using g), fun g => h3 (by simpa using g), fun g => h4 (by simpa using g), fun _ => rfl, fun g => h6 (by simpa using g), fun g => h7 (by simpa using g), fun g => h8 (by simpa using g), fun g => h9 (by simpa using g), fun g => h10 (by simpa using g), fun g => h11 (by simpa using g), fun g => h12 (by simpa using g), fun g => h13 (by simpa using g), fun g => h14 (by simpa using g), fun g => h15 (by simpa using g), fun g => h16 (by simpa using g)⟩⟩
      · rintro L t W ⟨hU, sY, sC, sO, sP, sn, sz, cl, h0, h1, h2, h3, h4, h5, h6, h7, h8, h9, h10, h11, h12, h13, h14, h15, h16⟩ hi hd R hR
        have b3 : t 3 = .pointer (some ⟨(w.heap.size + 1), 0, none⟩) := hU 3 (by decide)
        have c0 : (W).cell? ⟨(w.heap.size + 1), 0, none⟩ = some (.int .u8 1) := cell_of_row _ _ 0 _ _ _ sC.1
        have c1 : (W).cell? ⟨(w.heap.size + 1), 1, none⟩ = some (.int .i64 0) := cell_of_row _ _ 1 _ _ _ sC.1
        have c2 : (W).cell? ⟨(w.heap.size + 1), 2, none⟩ = some (.int .i64 0) := cell_of_row _ _ 2 _ _ _ sC.1
        have c3 : (W).cell? ⟨(w.heap.size + 1), 3, none⟩ = some (.string ⟨#[112]⟩) := cell_of_row _ _ 3 _ _ _ sC.1
        have c4 : (W).cell? ⟨(w.heap.size + 1), 4, none⟩ = some (.string ⟨#[]⟩) := cell_of_row _ _ 4 _ _ _ sC.1
        have HR := Lib.hid hR
        clear hR
        rw [mk56]
        go_wp2_with fail
        refine ⟨upd t 44 (.agg #[.int .u8 1, .int .i64 0, .int .i64 0, .string ⟨#[112]⟩, .string ⟨#[]⟩]), by rw [mk56]; simp [upd, b3], HR.out _ _ ⟨hU.upd 44 _ (by decide), sY, sC, sO, sP, sn, sz, (by simpa using cl), fun g => h0 (by simpa using g), fun g => h1 (by simpa using g), fun g => h2 (by simpa using g), fun g => h3 (by simpa using g), fun g => h4 (by simpa using g), fun g => h5 (by simpa using g), fun _ => rfl, fun g => h7 (by simpa using g), fun g => h8 (by simpa using g), fun g => h9 (by simpa using g), fun g => h10 (by simpa using g), fun g => h11 (by simpa using g), fun g => h12 (by simpa using g), fun g => h13 (by simpa using g), fun g => h14 (by simpa using g), fun g => h15 (by simpa using g), fun g => h16 (by simpa using g)⟩⟩
      · rintro L t W ⟨hU, sY, sC, sO, sP, sn, sz, cl, h0, h1, h2, h3, h4, h5, h6, h7, h8, h9, h10, h11, h12, h13, h14, h15, h16⟩ hi hd R hR
        have f4 := h4 (hd 4 (by kernel_rfl))
        have f5 := h5 (hd 5 (by kernel_rfl))
        have f6 := h6 (hd 6 (by kernel_rfl))
        have HR := Lib.hid hR
        clear hR
        rw [mk56]
        go_wp2_with fail
        refine (create_ok _ g2 k2 hk2 sn).mono ?_
        rintro e W2 ⟨⟨a, n, cc, rfl⟩, hb⟩
        dsimp only
        go_wp2_with fail
        refine ⟨upd t 45 (.tuple #[.agg #[.string ⟨#[104, 101, 114, 101]⟩, .slice a n cc, .slice none 0 0, .int .i64 0, .int .i64 800], .agg #[.int .i64 0, .int .i64 1, .slice none 0 0, .slice none 0 0], .int .i64 0]), by rw [mk56]; simp [upd, f4, f5, f6], HR.out _ _ ⟨hU.upd 45 _ (by decide), sY.keep (by omega) hb, sC.keep (by omega) hb, sO.keep (by omega) hb, sP.keep (by omega) hb, sn.keep hb, Nat.le_trans sz hb.size, (by simpa using cl), fun g => h0 (by simpa using g), fun g => h1 (by simpa using g), fun g => h2 (by simpa using g), fun g => h3 (by simpa using g), fun g => h4 (by simpa using g), fun g => h5 (by simpa using g), fun g => h6 (by simpa using g), fun _ => ⟨a, n, cc, rfl⟩, fun g => h8 (by simpa using g), fun g => h9 (by simpa using g), fun g => h10 (by simpa using g), fun g => h11 (by simpa using g), fun g => (by obtain ⟨b, cs, x1, x2, x3, x4⟩ := (h12 (by simpa using g)); exact ⟨b, cs, x1, x2, kept_blk hb x3, x4⟩), fun g => (by obtain ⟨b, cs, x1, x2, x3, x4⟩ := (h13 (by simpa using g)); exact ⟨b, cs, x1, x2, kept_blk hb x3, x4⟩), fun g => (by obtain ⟨b, a, n, cc, x1, x3⟩ := (h14 (by simpa using g)); exact ⟨b, a, n, cc, x1, kept_blk hb x3⟩), fun g => (by obtain ⟨b, x1, x3⟩ := (h15 (by simpa using g)); exact ⟨b, x1, kept_blk hb x3⟩), fun g => h16 (by simpa using g)⟩⟩
      · rintro L t W ⟨hU, sY, sC, sO, sP, sn, sz, cl, h0, h1, h2, h3, h4, h5, h6, h7, h8, h9, h10, h11, h12, h13, h14, h15, h16⟩ hi hd R hR
        have f7 := h7 (hd 7 (by kernel_rfl))
        obtain ⟨a, n, cc, f7⟩ := f7
        have HR := Lib.hid hR
        clear hR
        rw [mk56]
        go_wp2_with fail
        refine ⟨upd t 37 (.tuple #[.agg #[.string ⟨#[104, 101, 114, 101]⟩, .slice a n cc, .slice none 0 0, .int .i64 0, .int .i64 800], .agg #[.int .i64 0, .int .i64 1, .slice none 0 0, .slice none 0 0], .int .i64 0]), by rw [mk56]; simp [upd, f7], HR.out _ _ ⟨hU.upd 37 _ (by decide), sY, sC, sO, sP, sn, sz, (by simpa using cl), fun g => h0 (by simpa using g), fun g => h1 (by simpa using g), fun g => h2 (by simpa using g), fun g => h3 (by simpa using g), fun g => h4 (by simpa using g), fun g => h5 (by simpa using g), fun g => h6 (by simpa using g), fun g => h7 (by simpa using g), fun _ => ⟨a, n, cc, rfl⟩, fun g => h9 (by simpa using g), fun g => h10 (by simpa using g), fun g => h11 (by simpa using g), fun g => h12 (by simpa using g), fun g => h13 (by simpa using g), fun g => h14 (by simpa using g), fun g => h15 (by simpa using g), fun g => h16 (by simpa using g)⟩⟩
      · rintro L t W ⟨hU, sY, sC, sO, sP, sn, sz, cl, h0, h1, h2, h3, h4, h5, h6, h7, h8, h9, h10, h11, h12, h13, h14, h15, h16⟩ hi hd R hR
        have f8 := h8 (hd 8 (by kernel_rfl))
        obtain ⟨a, n, cc, f8⟩ := f8
        have HR := Lib.hid hR
        clear hR
        rw [mk56]
        go_wp2_with fail
        refine ⟨upd t 46 (.agg #[.string ⟨#[104, 101, 114, 101]⟩, .slice a n cc, .slice none 0 0, .int .i64 0, .int .i64 800]), by rw [mk56]; simp [upd, f8], HR.out _ _ ⟨hU.upd 46 _ (by decide), sY, sC, sO, sP, sn, sz, (by simpa using cl), fun g => h0 (by simpa using g), fun g => h1 (by simpa using g), fun g => h2 (by simpa using g), fun g => h3 (by simpa using g), fun g => h4 (by simpa using g), fun g => h5 (by simpa using g), fun g => h6 (by simpa using g), fun g => h7 (by simpa using g), fun g => h8 (by simpa using g), fun _ => ⟨a, n, cc, rfl⟩, fun g => h10 (by simpa using g), fun g => h11 (by simpa using g), fun g => h12 (by simpa using g), fun g => h13 (by simpa using g), fun g => h14 (by simpa using g), fun g => h15 (by simpa using g), fun g => h16 (by simpa using g)⟩⟩
      · rintro L t W ⟨hU, sY, sC, sO, sP, sn, sz, cl, h0, h1, h2, h3, h4, h5, h6, h7, h8, h9, h10, h11, h12, h13, h14, h15, h16⟩ hi hd R hR
        have f8 := h8 (hd 8 (by kernel_rfl))
        obtain ⟨a, n, cc, f8⟩ := f8
        have HR := Lib.hid hR
        clear hR
        rw [mk56]
        go_wp2_with fail
        refine ⟨upd t 47 (.agg #[.int .i64 0, .int .i64 1, .slice none 0 0, .slice none 0 0]), by rw [mk56]; simp [upd, f8], HR.out _ _ ⟨hU.upd 47 _ (by decide), sY, sC, sO, sP, sn, sz, (by simpa using cl), fun g => h0 (by simpa using g), fun g => h1 (by simpa using g), fun g => h2 (by simpa using g), fun g => h3 (by simpa using g), fun g => h4 (by simpa using g), fun g => h5 (by simpa using g), fun g => h6 (by simpa using g), fun g => h7 (by simpa using g), fun g => h8 (by simpa using g), fun g => h9 (by simpa using g), fun _ => rfl, fun g => h11 (by simpa using g), fun g => h12 (by simpa using g), fun g => h13 (by simpa using g), fun g => h14 (by simpa using g), fun g => h15 (by simpa using g), fun g => h16 (by simpa using g)⟩⟩
      · rintro L t W ⟨hU, sY, sC, sO, sP, sn, sz, cl, h0, h1, h2, h3, h4, h5, h6, h7, h8, h9, h10, h11, h12, h13, h14, h15, h16⟩ hi hd R hR
        have f8 := h8 (hd 8 (by kernel_rfl))
        obtain ⟨a, n, cc, f8⟩ := f8
        have HR := Lib.hid hR
        clear hR
        rw [mk56]
        go_wp2_with fail
        refine ⟨upd t 48 (.int .i64 0), by rw [mk56]; simp [upd, f8], HR.out _ _ ⟨hU.upd 48 _ (by decide), sY, sC, sO, sP, sn, sz, (by simpa using cl), fun g => h0 (by simpa using g), fun g => h1 (by simpa using g), fun g => h2 (by simpa using g), fun g => h3 (by simpa using g), fun g => h4 (by simpa using g), fun g => h5 (by simpa using g), fun g => h6 (by simpa using g), fun g => h7 (by simpa using g), fun g => h8 (by simpa using g), fun g => h9 (by simpa using g), fun g => h10 (by simpa using g), fun _ => rfl, fun g => h12 (by simpa using g), fun g => h13 (by simpa using g), fun g => h14 (by simpa using g), fun g => h15 (by simpa using g), fun g => h16 (by simpa using g)⟩⟩
      · rintro L t W ⟨hU, sY, sC, sO, sP, sn, sz, cl, h0, h1, h2, h3, h4, h5, h6, h7, h8, h9, h10, h11, h12, h13, h14, h15, h16⟩ hi hd R hR
        have hb : Below W.heap.size W (W.alloc (Obj.cells #[.string ⟨#[]⟩, .slice none 0 0, .slice none 0 0, .int .i64 0, .int .i64 0] 150)) := (Below.refl _ _).alloc (Nat.le_refl _) _
        have HR := Lib.hid hR
        clear hR
        rw [mk56]
        go_wp2_with fail
        refine ⟨upd t 11 (.pointer (some ⟨W.heap.size, 0, none⟩)), by rw [mk56]; simp [upd], HR.out _ _ ⟨hU.upd 11 _ (by decide), sY.keep (by omega) hb, sC.keep (by omega) hb, sO.keep (by omega) hb, sP.keep (by omega) hb, sn.keep hb, Nat.le_trans sz hb.size, (by simp; exact cl.2), fun g => h0 (by simpa using g), fun g => h1 (by simpa using g), fun g => h2 (by simpa using g), fun g => h3 (by simpa using g), fun g => h4 (by simpa using g), fun g => h5 (by simpa using g), fun g => h6 (by simpa using g), fun g => h7 (by simpa using g), fun g => h8 (by simpa using g), fun g => h9 (by simpa using g), fun g => h10 (by simpa using g), fun g => h11 (by simpa using g), fun _ => ⟨W.heap.size, _, rfl, sz, heap_alloc_new _ _, rfl⟩, fun g => (by obtain ⟨b, cs, x1, x2, x3, x4⟩ := (h13 (by simpa using g)); exact ⟨b, cs, x1, x2, kept_blk hb x3, x4⟩), fun g => absurd (cl.1 (by simpa using g)) (by simp [hi]), fun g => (by obtain ⟨b, x1, x3⟩ := (h15 (by simpa using g)); exact ⟨b, x1, kept_blk hb x3⟩), fun g => h16 (by simpa using g)⟩⟩
      · rintro L t W ⟨hU, sY, sC, sO, sP, sn, sz, cl, h0, h1, h2, h3, h4, h5, h6, h7, h8, h9, h10, h11, h12, h13, h14, h15, h16⟩ hi hd R hR
        have hb : Below W.heap.size W (W.alloc (Obj.cells #[.int .i64 0, .int .i64 0, .slice none 0 0, .slice none 0 0] 229)) := (Below.refl _ _).alloc (Nat.le_refl _) _
        have HR := Lib.hid hR
        clear hR
        rw [mk56]
        go_wp2_with fail
        refine ⟨upd t 12 (.pointer (some ⟨W.heap.size, 0, none⟩)), by rw [mk56]; simp [upd], HR.out _ _ ⟨hU.upd 12 _ (by decide), sY.keep (by omega) hb, sC.keep (by omega) hb, sO.keep (by omega) hb, sP.keep (by omega) hb, sn.keep hb, Nat.le_trans sz hb.size, (by simp; exact cl.1), fun g => h0 (by simpa using g), fun g => h1 (by simpa using g), fun g => h2 (by simpa using g), fun g => h3 (by simpa using g), fun g => h4 (by simpa using g), fun g => h5 (by simpa using g), fun g => h6 (by simpa using g), fun g => h7 (by simpa using g), fun g => h8 (by simpa using g), fun g => h9 (by simpa using g), fun g => h10 (by simpa using g), fun g => h11 (by simpa using g), fun g => (by obtain ⟨b, cs, x1, x2, x3, x4⟩ := (h12 (by simpa using g)); exact ⟨b, cs, x1, x2, kept_blk hb x3, x4⟩), fun _ => ⟨W.heap.size, _, rfl, sz, heap_alloc_new _ _, rfl⟩, fun g => (by obtain ⟨b, a, n, cc, x1, x3⟩ := (h14 (by simpa using g)); exact ⟨b, a, n, cc, x1, kept_blk hb x3⟩), fun g => absurd (cl.2 (by simpa using g)) (by simp [hi]), fun g => h16 (by simpa using g)⟩⟩
      · rintro L t W ⟨hU, sY, sC, sO, sP, sn, sz, cl, h0, h1, h2, h3, h4, h5, h6, h7, h8, h9, h10, h11, h12, h13, h14, h15, h16⟩ hi hd R hR
        have f12 := h12 (hd 12 (by kernel_rfl))
        have f9 := h9 (hd 9 (by kernel_rfl))
        obtain ⟨b, cs, x1, x2, x3, x4⟩ := f12
        obtain ⟨a, n, cc, x9⟩ := f9
        have q1 := hY.lt
        have q2 := hC.lt
        have q3 := hO.lt
        have q4 := hP.lt
        have q5 := sP.lt
        have HR := Lib.hid hR
        clear hR
        rw [mk56]
        go_wp2_with (refine wpList_store_row rfl 150 _ _ rfl b #[.string ⟨#[104, 101, 114, 101]⟩, .slice a n cc, .slice none 0 0, .int .i64 0, .int .i64 800] x1 x9 150 cs x3 (by kernel_rfl) x4 (by kernel_rfl) ?_)
        refine ⟨t, by rw [mk56]; simp [x1, x9], HR.out _ _ ⟨hU, sY.row_other (g := b) (by omega) (by omega) #[.string ⟨#[104, 101, 114, 101]⟩, .slice a n cc, .slice none 0 0, .int .i64 0, .int .i64 800], sC.row_other (g := b) (by omega) (by omega) #[.string ⟨#[104, 101, 114, 101]⟩, .slice a n cc, .slice none 0 0, .int .i64 0, .int .i64 800], sO.row_other (g := b) (by omega) (by omega) #[.string ⟨#[104, 101, 114, 101]⟩, .slice a n cc, .slice none 0 0, .int .i64 0, .int .i64 800], sP.row_other (g := b) (by omega) (by omega) #[.string ⟨#[104, 101, 114, 101]⟩, .slice a n cc, .slice none 0 0, .int .i64 0, .int .i64 800], sn.row_other (by have := hn2.lt; omega) #[.string ⟨#[104, 101, 114, 101]⟩, .slice a n cc, .slice none 0 0, .int .i64 0, .int .i64 800], (by rw [setRow_size]; exact sz), (by have q := hd 12 (by kernel_rfl); simp [q]; exact cl.2), fun g => h0 (by simpa using g), fun g => h1 (by simpa using g), fun g => h2 (by simpa using g), fun g => h3 (by simpa using g), fun g => h4 (by simpa using g), fun g => h5 (by simpa using g), fun g => h6 (by simpa using g), fun g => h7 (by simpa using g), fun g => h8 (by simpa using g), fun g => h9 (by simpa using g), fun g => h10 (by simpa using g), fun g => h11 (by simpa using g), fun g => ⟨b, #[.string ⟨#[104, 101, 114, 101]⟩, .slice a n cc, .slice none 0 0, .int .i64 0, .int .i64 800], x1, x2, setRow_heap _ _ _ _ _ _ x3, rfl⟩, fun g => (by obtain ⟨b2, cs2, z1, z2, z3, z4⟩ := (h13 (by simpa using g)); exact ⟨b2, cs2, z1, z2, (setRow_other _ _ _ _ (blk_ne x3 z3 (by decide))).trans z3, z4⟩), fun _ => ⟨b, a, n, cc, x1, setRow_heap _ _ _ _ _ _ x3⟩, fun g => (by obtain ⟨b2, z1, z3⟩ := (h15 (by simpa using g)); exact ⟨b2, z1, (setRow_other _ _ _ _ (blk_ne x3 z3 (by decide))).trans z3⟩), fun g => h16 (by simpa using g)⟩⟩
      · rintro L t W ⟨hU, sY, sC, sO, sP, sn, sz, cl, h0, h1, h2, h3, h4, h5, h6, h7, h8, h9, h10, h11, h12, h13, h14, h15, h16⟩ hi hd R hR
        have f13 := h13 (hd 13 (by kernel_rfl))
        have f10 := h10 (hd 10 (by kernel_rfl))
        obtain ⟨b, cs, x1, x2, x3, x4⟩ := f13
        have q1 := hY.lt
        have q2 := hC.lt
        have q3 := hO.lt
        have q4 := hP.lt
        have q5 := sP.lt
        have HR := Lib.hid hR
        clear hR
        rw [mk56]
        go_wp2_with (refine wpList_store_row rfl 229 _ _ rfl b #[.int .i64 0, .int .i64 1, .slice none 0 0, .slice none 0 0] x1 f10 229 cs x3 (by kernel_rfl) x4 (by kernel_rfl) ?_)
        refine ⟨t, by rw [mk56]; simp [x1, f10], HR.out _ _ ⟨hU, sY.row_other (g := b) (by omega) (by omega) #[.int .i64 0, .int .i64 1, .slice none 0 0, .slice none 0 0], sC.row_other (g := b) (by omega) (by omega) #[.int .i64 0, .int .i64 1, .slice none 0 0, .slice none 0 0], sO.row_other (g := b) (by omega) (by omega) #[.int .i64 0, .int .i64 1, .slice none 0 0, .slice none 0 0], sP.row_other (g := b) (by omega) (by omega) #[.int .i64 0, .int .i64 1, .slice none 0 0, .slice none 0 0], sn.row_other (by have := hn2.lt; omega) #[.int .i64 0, .int .i64 1, .slice none 0 0, .slice none 0 0], (by rw [setRow_size]; exact sz), (by have q := hd 13 (by kernel_rfl); simp [q]; exact cl.1), fun g => h0 (by simpa using g), fun g => h1 (by simpa using g), fun g => h2 (by simpa using g), fun g => h3 (by simpa using g), fun g => h4 (by simpa using g), fun g => h5 (by simpa using g), fun g => h6 (by simpa using g), fun g => h7 (by simpa using g), fun g => h8 (by simpa using g), fun g => h9 (by simpa using g), fun g => h10 (by simpa using g), fun g => h11 (by simpa using g), fun g => (by obtain ⟨b2, cs2, z1, z2, z3, z4⟩ := (h12 (by simpa using g)); exact ⟨b2, cs2, z1, z2, (setRow_other _ _ _ _ (blk_ne x3 z3 (by decide))).trans z3, z4⟩), fun g => ⟨b, #[.int .i64 0, .int .i64 1, .slice none 0 0, .slice none 0 0], x1, x2, setRow_heap _ _ _ _ _ _ x3, rfl⟩, fun g => (by obtain ⟨b2, a, n, cc, z1, z3⟩ := (h14 (by simpa using g)); exact ⟨b2, a, n, cc, z1, (setRow_other _ _ _ _ (blk_ne x3 z3 (by decide))).trans z3⟩), fun _ => ⟨b, x1, setRow_heap _ _ _ _ _ _ x3⟩, fun g => h16 (by simpa using g)⟩⟩
      · rintro L t W ⟨hU, sY, sC, sO, sP, sn, sz, cl, h0, h1, h2, h3, h4, h5, h6, h7, h8, h9, h10, h11, h12, h13, h14, h15, h16⟩ hi hd R hR
        have f11 := h11 (hd 11 (by kernel_rfl))
        have HR := Lib.hid hR
        clear hR
        rw [mk56]
        go_wp2_with fail
        refine ⟨upd t 9 (.int .i64 0), by rw [mk56]; simp [upd, f11], HR.out _ _ ⟨hU.upd 9 _ (by decide), sY, sC, sO, sP, sn, sz, (by simpa using cl), fun g => h0 (by simpa using g), fun g => h1 (by simpa using g), fun g => h2 (by simpa using g), fun g => h3 (by simpa using g), fun g => h4 (by simpa using g), fun g => h5 (by simpa using g), fun g => h6 (by simpa using g), fun g => h7 (by simpa using g), fun g => h8 (by simpa using g), fun g => h9 (by simpa using g), fun g => h10 (by simpa using g), fun g => h11 (by simpa using g), fun g => h12 (by simpa using g), fun g => h13 (by simpa using g), fun g => h14 (by simpa using g), fun g => h15 (by simpa using g), fun _ => rfl⟩⟩
    case last =>
      rintro L t W hU ⟨sY, sC, sO, sP, sn, sz, cl, h0, h1, h2, h3, h4, h5, h6, h7, h8, h9, h10, h11, h12, h13, h14, h15, h16⟩ hall
      have f14 := h14 (hall 14 (by decide))
      have f15 := h15 (hall 15 (by decide))
      have f16 := h16 (hall 16 (by decide))
      obtain ⟨b1, a, n, cc, x1, x2⟩ := f14
      obtain ⟨b2, y1, y2⟩ := f15
      obtain ⟨c1, cs1, z1, z2, _⟩ := h12 (hall 12 (by decide))
      obtain ⟨c2, cs2, u1, u2, _⟩ := h13 (hall 13 (by decide))
      have e1 : c1 = b1 := by rw [x1] at z1; injection z1 with z1; injection z1 with z1; injection z1 with z1; exact z1.symm
      have e2 : c2 = b2 := by rw [y1] at u1; injection u1 with u1; injection u1 with u1; injection u1 with u1; exact u1.symm
      subst e1 e2
      have b0 := hU 0 (by decide)
      have b1 := hU 1 (by decide)
      have b2 := hU 2 (by decide)
      have b3 := hU 3 (by decide)
      have b4 := hU 4 (by decide)
      have b5 := hU 5 (by decide)
      have b6 := hU 6 (by decide)
      have b7 := hU 7 (by decide)
      have b8 := hU 8 (by decide)
      have b10 := hU 10 (by decide)
      simp at b0 b1 b2 b3 b4 b5 b6 b7 b8 b10
      have f9 := b0
      rw [mk56]
      simp only [b0, b1, b2, b3, b4, b5, b6, b7, b8, b10, f16, z1, u1]
      have lt1 : c1 ≠ c2 := fun e => blk_ne x2 y2 (by decide) e.symm
      go_wp2_with fail
      go_meet
      exact ⟨rfl, c1, c2, rfl, rfl, a, n, cc, ⟨x2, sO.2⟩, ⟨y2, sO.2⟩, sO, sP, by have := hP.lt; omega, by have := hP.lt; omega⟩
  case rest =>
    obtain ⟨rfl, b1, b2, rfl, rfl, a, n, cc, hB1, hB2, hO, hP, l1, l2⟩ := hcut
    have ne1 : b1 ≠ (w.heap.size + 1 + 1) := by omega
    have ne2 : b1 ≠ (w.heap.size + 1 + 1 + 1) := by omega
    have ne3 : b2 ≠ (w.heap.size + 1 + 1) := by omega
    have ne4 : b2 ≠ (w.heap.size + 1 + 1 + 1) := by omega
    have x0 : (wc).cell? ⟨b1, 0, none⟩ = some (.string ⟨#[104, 101, 114, 101]⟩) := cell_of_row _ _ 0 _ _ _ hB1.1
    have x1 : (wc).cell? ⟨b1, 1, none⟩ = some (.slice a n cc) := cell_of_row _ _ 1 _ _ _ hB1.1
    have x2 : (wc).cell? ⟨b1, 2, none⟩ = some (.slice none 0 0) := cell_of_row _ _ 2 _ _ _ hB1.1
    have x3 : (wc).cell? ⟨b1, 3, none⟩ = some (.int .i64 0) := cell_of_row _ _ 3 _ _ _ hB1.1
    have x4 : (wc).cell? ⟨b1, 4, none⟩ = some (.int .i64 800) := cell_of_row _ _ 4 _ _ _ hB1.1
    have z0 : (wc).cell? ⟨b2, 0, none⟩ = some (.int .i64 0) := cell_of_row _ _ 0 _ _ _ hB2.1
    have z1 : (wc).cell? ⟨b2, 1, none⟩ = some (.int .i64 1) := cell_of_row _ _ 1 _ _ _ hB2.1
    have z2 : (wc).cell? ⟨b2, 2, none⟩ = some (.slice none 0 0) := cell_of_row _ _ 2 _ _ _ hB2.1
    have z3 : (wc).cell? ⟨b2, 3, none⟩ = some (.slice none 0 0) := cell_of_row _ _ 3 _ _ _ hB2.1
    have o0 : (wc).cell? ⟨(w.heap.size + 1 + 1), 0, none⟩ = some (.string ⟨#[]⟩) := cell_of_row _ _ 0 _ _ _ hO.1
    have o1 : (wc).cell? ⟨(w.heap.size + 1 + 1), 1, none⟩ = some (.slice none 0 0) := cell_of_row _ _ 1 _ _ _ hO.1
    have o2 : (wc).cell? ⟨(w.heap.size + 1 + 1), 2, none⟩ = some (.slice none 0 0) := cell_of_row _ _ 2 _ _ _ hO.1
    have o3 : (wc).cell? ⟨(w.heap.size + 1 + 1), 3, none⟩ = some (.int .i64 0) := cell_of_row _ _ 3 _ _ _ hO.1
    have o4 : (wc).cell? ⟨(w.heap.size + 1 + 1), 4, none⟩ = some (.int .i64 0) := cell_of_row _ _ 4 _ _ _ hO.1
    have p0 : (wc).cell? ⟨(w.heap.size + 1 + 1 + 1), 0, none⟩ = some (.int .i64 0) := cell_of_row _ _ 0 _ _ _ hP.1
    have p1 : (wc).cell? ⟨(w.heap.size + 1 + 1 + 1), 1, none⟩ = some (.int .i64 0) := cell_of_row _ _ 1 _ _ _ hP.1
    have p2 : (wc).cell? ⟨(w.heap.size + 1 + 1 + 1), 2, none⟩ = some (.slice none 0 0) := cell_of_row _ _ 2 _ _ _ hP.1
    have p3 : (wc).cell? ⟨(w.heap.size + 1 + 1 + 1), 3, none⟩ = some (.slice none 0 0) := cell_of_row _ _ 3 _ _ _ hP.1
    have of : ∀ j, wc.frozen? ⟨(w.heap.size + 1 + 1), j, none⟩ = false := fun j => by simp [World.frozen?, hO.1]
    have pf : ∀ j, wc.frozen? ⟨(w.heap.size + 1 + 1 + 1), j, none⟩ = false := fun j => by simp [World.frozen?, hP.1]
    go_wp2_with fail
    go_region
    have hO2 : Lies w.heap.size w _ (w.heap.size + 1 + 1) (.cells #[.string ⟨#[104, 101, 114, 101]⟩, .slice a n cc, .slice none 0 0, .int .i64 0, .int .i64 800] 150 (0, 0)) := (((((((((hO.cell (by omega) 0 (.string ⟨#[104, 101, 114, 101]⟩)).cell (by omega) 1 (.slice a n cc)).cell (by omega) 2 (.slice none 0 0)).cell (by omega) 3 (.int .i64 0)).cell (by omega) 4 (.int .i64 800)).cell_other (g := (w.heap.size + 1 + 1 + 1)) (by omega) (by omega) 0 (.int .i64 0)).cell_other (g := (w.heap.size + 1 + 1 + 1)) (by omega) (by omega) 1 (.int .i64 1)).cell_other (g := (w.heap.size + 1 + 1 + 1)) (by omega) (by omega) 2 (.slice none 0 0)).cell_other (g := (w.heap.size + 1 + 1 + 1)) (by omega) (by omega) 3 (.slice none 0 0)).drew
    have hP2 : Lies w.heap.size w _ (w.heap.size + 1 + 1 + 1) (.cells #[.int .i64 0, .int .i64 1, .slice none 0 0, .slice none 0 0] 229 (0, 0)) := (((((((((hP.cell_other (g := (w.heap.size + 1 + 1)) (by omega) (by omega) 0 (.string ⟨#[104, 101, 114, 101]⟩)).cell_other (g := (w.heap.size + 1 + 1)) (by omega) (by omega) 1 (.slice a n cc)).cell_other (g := (w.heap.size + 1 + 1)) (by omega) (by omega) 2 (.slice none 0 0)).cell_other (g := (w.heap.size + 1 + 1)) (by omega) (by omega) 3 (.int .i64 0)).cell_other (g := (w.heap.size + 1 + 1)) (by omega) (by omega) 4 (.int .i64 800)).cell (by omega) 0 (.int .i64 0)).cell (by omega) 1 (.int .i64 1)).cell (by omega) 2 (.slice none 0 0)).cell (by omega) 3 (.slice none 0 0)).drew
    go_wp2_with fail
    generalize World.drew _ = W at hO2 hP2 ⊢
    have v0 : (W).cell? ⟨(w.heap.size + 1 + 1), 0, none⟩ = some (.string ⟨#[104, 101, 114, 101]⟩) := cell_of_row _ _ 0 _ _ _ hO2.1
    have v1 : (W).cell? ⟨(w.heap.size + 1 + 1), 1, none⟩ = some (.slice a n cc) := cell_of_row _ _ 1 _ _ _ hO2.1
    have v2 : (W).cell? ⟨(w.heap.size + 1 + 1), 2, none⟩ = some (.slice none 0 0) := cell_of_row _ _ 2 _ _ _ hO2.1
    have v3 : (W).cell? ⟨(w.heap.size + 1 + 1), 3, none⟩ = some (.int .i64 0) := cell_of_row _ _ 3 _ _ _ hO2.1
    have v4 : (W).cell? ⟨(w.heap.size + 1 + 1), 4, none⟩ = some (.int .i64 800) := cell_of_row _ _ 4 _ _ _ hO2.1
    have y0 : (W).cell? ⟨(w.heap.size + 1 + 1 + 1), 0, none⟩ = some (.int .i64 0) := cell_of_row _ _ 0 _ _ _ hP2.1
    have y1 : (W).cell? ⟨(w.heap.size + 1 + 1 + 1), 1, none⟩ = some (.int .i64 1) := cell_of_row _ _ 1 _ _ _ hP2.1
    have y2 : (W).cell? ⟨(w.heap.size + 1 + 1 + 1), 2, none⟩ = some (.slice none 0 0) := cell_of_row _ _ 2 _ _ _ hP2.1
    have y3 : (W).cell? ⟨(w.heap.size + 1 + 1 + 1), 3, none⟩ = some (.slice none 0 0) := cell_of_row _ _ 3 _ _ _ hP2.1
    refine bodyPost_ret (v := .tuple #[.agg #[.string ⟨#[104, 101, 114, 101]⟩, .slice a n cc, .slice none 0 0, .int .i64 0, .int .i64 800], .agg #[.int .i64 0, .int .i64 1, .slice none 0 0, .slice none 0 0], .int .i64 0]) (by simp [results, Tryz.results154, go_sem, v0, v1, v2, v3, v4, y0, y1, y2, y3]) rfl ⟨⟨_, _, _, rfl⟩, hO2.2⟩
end Go.Proofs.YtgkamgijnhbcbaaGreatDoor
