/- The console: the call of an order. -/
import Derived.Test.YtgkamgijnhbcbaaGreatDoorJoinOk
import Derived.Test.YtgkamgijnhbcbaaGreatDoorGen
import Derived.WalkKit
import Derived.WalkSpells
import Derived.WalkLawsBesides
import Derived.Deep.RegionWith
import Derived.Deep.DeepCutAuto
import Derived.RegionTactic
namespace Go.Proofs.YtgkamgijnhbcbaaGreatDoor
open Go.RowKit Go.Proofs
open Go.Vt
theorem mk71 (t : Nat → Value) : mk 71 t = (t 0 :: t 1 :: t 2 :: t 3 :: t 4 :: t 5 :: t 6 :: t 7 :: t 8 :: t 9 :: t 10 :: t 11 :: t 12 :: t 13 :: t 14 :: t 15 :: t 16 :: t 17 :: t 18 :: t 19 :: t 20 :: t 21 :: t 22 :: t 23 :: t 24 :: t 25 :: t 26 :: t 27 :: t 28 :: t 29 :: t 30 :: t 31 :: t 32 :: t 33 :: t 34 :: t 35 :: t 36 :: t 37 :: t 38 :: t 39 :: t 40 :: t 41 :: t 42 :: t 43 :: t 44 :: t 45 :: t 46 :: t 47 :: t 48 :: t 49 :: t 50 :: t 51 :: t 52 :: t 53 :: t 54 :: t 55 :: t 56 :: t 57 :: t 58 :: t 59 :: t 60 :: t 61 :: t 62 :: t 63 :: t 64 :: t 65 :: t 66 :: t 67 :: t 68 :: t 69 :: t 70 :: []).toArray := rfl
set_option maxRecDepth 100000 in
set_option maxHeartbeats 4000000 in
theorem call_ok (X : Nat → Prop) (w0 w : World) (d g : Nat) (h : LiesX X w0 w d (.cells #[.string ⟨#[104, 101, 114, 101]⟩, .slice none 0 0, .int .i64 800, .slice none 0 0, .string ⟨#[104, 101, 114, 101]⟩, .slice (some ⟨g, 0, none⟩) 1 1, .slice none 0 0, .int .i64 0, .int .i64 800, .slice none 0 0] 152 (0, 0))) (hB : ¬ X d) (hg : Node w g) : Calls Tryz.prog 118 #[.pointer (some ⟨d, 0, none⟩), .agg #[.int .u8 1, .int .i64 0, .int .i64 0, .string ⟨#[112]⟩, .string ⟨#[]⟩]] w fun e w' => e = .returned (.string ⟨#[48, 32, 49, 32, 91, 93, 32, 91, 93]⟩) ∧ BelowX X w0 w' := by
  have hlt := h.lt
  have hX : ∀ k, X k → k < w.heap.size := fun k hk => Nat.lt_of_lt_of_le (h.2.dom k hk) h.2.size
  have d0 : (w).cell? ⟨d, 0, none⟩ = some (.string ⟨#[104, 101, 114, 101]⟩) := cell_of_row _ _ 0 _ _ _ h.1
  have d1 : (w).cell? ⟨d, 1, none⟩ = some (.slice none 0 0) := cell_of_row _ _ 1 _ _ _ h.1
  have d2 : (w).cell? ⟨d, 2, none⟩ = some (.int .i64 800) := cell_of_row _ _ 2 _ _ _ h.1
  have d3 : (w).cell? ⟨d, 3, none⟩ = some (.slice none 0 0) := cell_of_row _ _ 3 _ _ _ h.1
  have d4 : (w).cell? ⟨d, 4, none⟩ = some (.string ⟨#[104, 101, 114, 101]⟩) := cell_of_row _ _ 4 _ _ _ h.1
  have d5 : (w).cell? ⟨d, 5, none⟩ = some (.slice (some ⟨g, 0, none⟩) 1 1) := cell_of_row _ _ 5 _ _ _ h.1
  have d6 : (w).cell? ⟨d, 6, none⟩ = some (.slice none 0 0) := cell_of_row _ _ 6 _ _ _ h.1
  have d7 : (w).cell? ⟨d, 7, none⟩ = some (.int .i64 0) := cell_of_row _ _ 7 _ _ _ h.1
  have d8 : (w).cell? ⟨d, 8, none⟩ = some (.int .i64 800) := cell_of_row _ _ 8 _ _ _ h.1
  have d9 : (w).cell? ⟨d, 9, none⟩ = some (.slice none 0 0) := cell_of_row _ _ 9 _ _ _ h.1
  go_enter Tryz.func118, Tryz.ntmps118
  go_wp2_with fail
  clear d0 d1 d2 d3 d4 d5 d6 d7 d8 d9
  have hD := h.alloc (Obj.cells #[.int .u8 1, .int .i64 0, .int .i64 0, .string ⟨#[112]⟩, .string ⟨#[]⟩] 188)
  have hC : LiesX X w0 _ w.heap.size (.cells #[.int .u8 1, .int .i64 0, .int .i64 0, .string ⟨#[112]⟩, .string ⟨#[]⟩] 188 (0, 0)) := h.next' (Obj.cells #[.int .u8 1, .int .i64 0, .int .i64 0, .string ⟨#[112]⟩, .string ⟨#[]⟩] 188)
  have hg2 := hg.alloc (Obj.cells #[.int .u8 1, .int .i64 0, .int .i64 0, .string ⟨#[112]⟩, .string ⟨#[]⟩] 188)
  have hgl := hg.lt
  have hdg : d ≠ g ∨ True := .inr trivial
  go_cut [5, 6, 7] (fun s5 s6 s7 wx => s7 = .int .i64 0 ∧ ∃ b1 b2, s5 = .pointer (some ⟨b1, 0, none⟩) ∧ s6 = .pointer (some ⟨b2, 0, none⟩) ∧ ∃ a n cc, LiesX X w0 wx b1 (.cells #[.string ⟨#[104, 101, 114, 101]⟩, .slice a n cc, .slice none 0 0, .int .i64 0, .int .i64 800] 150 (0, 0)) ∧ LiesX X w0 wx b2 (.cells #[.int .i64 0, .int .i64 1, .slice none 0 0, .slice none 0 0] 229 (0, 0)) ∧ LiesX X w0 wx d (.cells #[.string ⟨#[104, 101, 114, 101]⟩, .slice none 0 0, .int .i64 800, .slice none 0 0, .string ⟨#[104, 101, 114, 101]⟩, .slice (some ⟨g, 0, none⟩) 1 1, .slice none 0 0, .int .i64 0, .int .i64 800, .slice none 0 0] 152 (0, 0)) ∧ LiesX X w0 wx w.heap.size (.cells #[.int .u8 1, .int .i64 0, .int .i64 0, .string ⟨#[112]⟩, .string ⟨#[]⟩] 188 (0, 0)) ∧ (w.heap.size + 1) ≤ b1 ∧ (w.heap.size + 1) ≤ b2)
  case first =>
    refine wp_region_plan [18, 19, 20, 21, 22, 23, 17, 24, 25, 26, 5, 6, 7] 71 (fun (L : Nat → Bool) (t : Nat → Value) (W : World) => LiesX X w0 W d (.cells #[.string ⟨#[104, 101, 114, 101]⟩, .slice none 0 0, .int .i64 800, .slice none 0 0, .string ⟨#[104, 101, 114, 101]⟩, .slice (some ⟨g, 0, none⟩) 1 1, .slice none 0 0, .int .i64 0, .int .i64 800, .slice none 0 0] 152 (0, 0)) ∧ LiesX X w0 W w.heap.size (.cells #[.int .u8 1, .int .i64 0, .int .i64 0, .string ⟨#[112]⟩, .string ⟨#[]⟩] 188 (0, 0)) ∧ Node W g ∧ (w.heap.size + 1) ≤ W.heap.size ∧ ((L 12 = true → L 10 = true) ∧ (L 13 = true → L 11 = true)) ∧ (L 0 = true → t 18 = .pointer (some ⟨d, 0, none⟩)) ∧ (L 1 = true → t 19 = .pointer (some ⟨d, 0, none⟩)) ∧ (L 2 = true → t 20 = .pointer (some ⟨d, 4, none⟩)) ∧ (L 3 = true → t 21 = .agg #[.string ⟨#[104, 101, 114, 101]⟩, .slice (some ⟨g, 0, none⟩) 1 1, .slice none 0 0, .int .i64 0, .int .i64 800]) ∧ (L 4 = true → t 22 = .agg #[.int .u8 1, .int .i64 0, .int .i64 0, .string ⟨#[112]⟩, .string ⟨#[]⟩]) ∧ (L 5 = true → ∃ a n cc, t 23 = .tuple #[.agg #[.string ⟨#[104, 101, 114, 101]⟩, .slice a n cc, .slice none 0 0, .int .i64 0, .int .i64 800], .agg #[.int .i64 0, .int .i64 1, .slice none 0 0, .slice none 0 0], .int .i64 0]) ∧ (L 6 = true → ∃ a n cc, t 17 = .tuple #[.agg #[.string ⟨#[104, 101, 114, 101]⟩, .slice a n cc, .slice none 0 0, .int .i64 0, .int .i64 800], .agg #[.int .i64 0, .int .i64 1, .slice none 0 0, .slice none 0 0], .int .i64 0]) ∧ (L 7 = true → ∃ a n cc, t 24 = .agg #[.string ⟨#[104, 101, 114, 101]⟩, .slice a n cc, .slice none 0 0, .int .i64 0, .int .i64 800]) ∧ (L 8 = true → t 25 = .agg #[.int .i64 0, .int .i64 1, .slice none 0 0, .slice none 0 0]) ∧ (L 9 = true → t 26 = .int .i64 0) ∧ (L 10 = true → ∃ b cs, t 5 = .pointer (some ⟨b, 0, none⟩) ∧ (w.heap.size + 1) ≤ b ∧ W.heap[b]? = some (.cells cs 150 (0, 0)) ∧ cs.size = 5) ∧ (L 11 = true → ∃ b cs, t 6 = .pointer (some ⟨b, 0, none⟩) ∧ (w.heap.size + 1) ≤ b ∧ W.heap[b]? = some (.cells cs 229 (0, 0)) ∧ cs.size = 4) ∧ (L 12 = true → ∃ b a n cc, t 5 = .pointer (some ⟨b, 0, none⟩) ∧ W.heap[b]? = some (.cells #[.string ⟨#[104, 101, 114, 101]⟩, .slice a n cc, .slice none 0 0, .int .i64 0, .int .i64 800] 150 (0, 0))) ∧ (L 13 = true → ∃ b, t 6 = .pointer (some ⟨b, 0, none⟩) ∧ W.heap[b]? = some (.cells #[.int .i64 0, .int .i64 1, .slice none 0 0, .slice none 0 0] 229 (0, 0))) ∧ (L 14 = true → t 7 = .int .i64 0)) (by kernel_rfl) (by kernel_rfl) rfl ?start ?steps ?last
    case start => exact ⟨hD.drew, hC.drew, hg2.keep (below_drew (Below.refl _ _)), (by simp [World.drew]), ⟨fun g => by simp at g, fun g => by simp at g⟩, fun g => by simp at g, fun g => by simp at g, fun g => by simp at g, fun g => by simp at g, fun g => by simp at g, fun g => by simp at g, fun g => by simp at g, fun g => by simp at g, fun g => by simp at g, fun g => by simp at g, fun g => by simp at g, fun g => by simp at g, fun g => by simp at g, fun g => by simp at g, fun g => by simp at g⟩
    case steps =>
      refine .cons (j := 1) rfl ?_ (.cons (j := 2) rfl ?_ (.cons (j := 3) rfl ?_ (.cons (j := 4) rfl ?_ (.cons (j := 5) rfl ?_ (.cons (j := 6) rfl ?_ (.cons (j := 7) rfl ?_ (.cons (j := 8) rfl ?_ (.cons (j := 9) rfl ?_ (.cons (j := 10) rfl ?_ (.cons (j := 11) rfl ?_ (.cons (j := 12) rfl ?_ (.cons (j := 13) rfl ?_ (.cons (j := 14) rfl ?_ (.cons (j := 15) rfl ?_ (.nil)))))))))))))))
      · rintro L t W ⟨hU, sD, sC, sn, sz, cl, h0, h1, h2, h3, h4, h5, h6, h7, h8, h9, h10, h11, h12, h13, h14⟩ hi hd R hR
        have b0 : t 0 = .pointer (some ⟨d, 0, none⟩) := hU 0 (by decide)
        have HR := Lib.hid hR
        clear hR
        rw [mk71]
        go_wp2_with fail
        refine ⟨upd t 18 (.pointer (some ⟨d, 0, none⟩)), by rw [mk71]; simp [upd, b0], HR.out _ _ ⟨hU.upd 18 _ (by decide), sD, sC, sn, sz, (by simpa using cl), fun _ => rfl, fun g => h1 (by simpa using g), fun g => h2 (by simpa using g), fun g => h3 (by simpa using g), fun g => h4 (by simpa using g), fun g => h5 (by simpa using g), fun g => h6 (by simpa using g), fun g => h7 (by simpa using g), fun g => h8 (by simpa using g), fun g => h9 (by simpa using g), fun g => h10 (by simpa using g), fun g => h11 (by simpa using g), fun g => h12 (by simpa using g), fun g => h13 (by simpa using g), fun g => h14 (by simpa using g)⟩⟩
      · rintro L t W ⟨hU, sD, sC, sn, sz, cl, h0, h1, h2, h3, h4, h5, h6, h7, h8, h9, h10, h11, h12, h13, h14⟩ hi hd R hR
        have f0 := h0 (hd 0 (by kernel_rfl))
        have HR := Lib.hid hR
        clear hR
        rw [mk71]
        go_wp2_with fail
        refine ⟨upd t 19 (.pointer (some ⟨d, 0, none⟩)), by rw [mk71]; simp [upd, f0], HR.out _ _ ⟨hU.upd 19 _ (by decide), sD, sC, sn, sz, (by simpa using cl), fun g => h0 (by simpa using g), fun _ => rfl, fun g => h2 (by simpa using g), fun g => h3 (by simpa using g), fun g => h4 (by simpa using g), fun g => h5 (by simpa using g), fun g => h6 (by simpa using g), fun g => h7 (by simpa using g), fun g => h8 (by simpa using g), fun g => h9 (by simpa using g), fun g => h10 (by simpa using g), fun g => h11 (by simpa using g), fun g => h12 (by simpa using g), fun g => h13 (by simpa using g), fun g => h14 (by simpa using g)⟩⟩
      · rintro L t W ⟨hU, sD, sC, sn, sz, cl, h0, h1, h2, h3, h4, h5, h6, h7, h8, h9, h10, h11, h12, h13, h14⟩ hi hd R hR
        have f1 := h1 (hd 1 (by kernel_rfl))
        have HR := Lib.hid hR
        clear hR
        rw [mk71]
        go_wp2_with fail
        refine ⟨upd t 20 (.pointer (some ⟨d, 4, none⟩)), by rw [mk71]; simp [upd, f1], HR.out _ _ ⟨hU.upd 20 _ (by decide), sD, sC, sn, sz, (by simpa using cl), fun g => h0 (by simpa using g), fun g => h1 (by simpa using g), fun _ => rfl, fun g => h3 (by simpa using g), fun g => h4 (by simpa using g), fun g => h5 (by simpa using g), fun g => h6 (by simpa using g), fun g => h7 (by simpa using g), fun g => h8 (by simpa using g), fun g => h9 (by simpa using g), fun g => h10 (by simpa using g), fun g => h11 (by simpa using g), fun g => h12 (by simpa using g), fun g => h13 (by simpa using g), fun g => h14 (by simpa using g)⟩⟩
      · rintro L t W ⟨hU, sD, sC, sn, sz, cl, h0, h1, h2, h3, h4, h5, h6, h7, h8, h9, h10, h11, h12, h13, h14⟩ hi hd R hR
        have f2 := h2 (hd 2 (by kernel_rfl))
        have d0 : (W).cell? ⟨d, 0, none⟩ = some (.string ⟨#[104, 101, 114, 101]⟩) := cell_of_row _ _ 0 _ _ _ sD.1
        have d1 : (W).cell? ⟨d, 1, none⟩ = some (.slice none 0 0) := cell_of_row _ _ 1 _ _ _ sD.1
        have d2 : (W).cell? ⟨d, 2, none⟩ = some (.int .i64 800) := cell_of_row _ _ 2 _ _ _ sD.1
        have d3 : (W).cell? ⟨d, 3, none⟩ = some (.slice none 0 0) := cell_of_row _ _ 3 _ _ _ sD.1
        have d4 : (W).cell? ⟨d, 4, none⟩ = some (.string ⟨#[104, 101, 114, 101]⟩) := cell_of_row _ _ 4 _ _ _ sD.1
        have d5 : (W).cell? ⟨d, 5, none⟩ = some (.slice (some ⟨g, 0, none⟩) 1 1) := cell_of_row _ _ 5 _ _ _ sD.1
        have d6 : (W).cell? ⟨d, 6, none⟩ = some (.slice none 0 0) := cell_of_row _ _ 6 _ _ _ sD.1
        have d7 : (W).cell? ⟨d, 7, none⟩ = some (.int .i64 0) := cell_of_row _ _ 7 _ _ _ sD.1
        have d8 : (W).cell? ⟨d, 8, none⟩ = some (.int .i64 800) := cell_of_row _ _ 8 _ _ _ sD.1
        have d9 : (W).cell? ⟨d, 9, none⟩ = some (.slice none 0 0) := cell_of_row _ _ 9 _ _ _ sD.1
        have HR := Lib.hid hR
        clear hR
        rw [mk71]
        go_wp2_with fail
        refine ⟨upd t 21 (.agg #[.string ⟨#[104, 101, 114, 101]⟩, .slice (some ⟨g, 0, none⟩) 1 1, .slice none 0 0, .int .i64 0, .int .i64 800]), by rw [mk71]; simp [upd, f2], HR.out _ _ ⟨hU.upd 21 _ (by decide), sD, sC, sn, sz, (by simpa using cl), fun g => h0 (by simpa using g), fun g => h1 (by simpa using g), fun g => h2 (by simpa using g), fun _ => rfl, fun g => h4 (by simpa using g), fun g => h5 (by simpa using g), fun g => h6 (by simpa using g), fun g => h7 (by simpa using g), fun g => h8 (by simpa using g), fun g => h9 (by simpa using g), fun g => h10 (by simpa using g), fun g => h11 (by simpa using g), fun g => h12 (by simpa using g), fun g => h13 (by simpa using g), fun g => h14 (by simpa using g)⟩⟩
      · rintro L t W ⟨hU, sD, sC, sn, sz, cl, h0, h1, h2, h3, h4, h5, h6, h7, h8, h9, h10, h11, h12, h13, h14⟩ hi hd R hR
        have b3 : t 3 = .pointer (some ⟨w.heap.size, 0, none⟩) := hU 3 (by decide)
        have c0 : (W).cell? ⟨w.heap.size, 0, none⟩ = some (.int .u8 1) := cell_of_row _ _ 0 _ _ _ sC.1
        have c1 : (W).cell? ⟨w.heap.size, 1, none⟩ = some (.int .i64 0) := cell_of_row _ _ 1 _ _ _ sC.1
        have c2 : (W).cell? ⟨w.heap.size, 2, none⟩ = some (.int .i64 0) := cell_of_row _ _ 2 _ _ _ sC.1
        have c3 : (W).cell? ⟨w.heap.size, 3, none⟩ = some (.string ⟨#[112]⟩) := cell_of_row _ _ 3 _ _ _ sC.1
        have c4 : (W).cell? ⟨w.heap.size, 4, none⟩ = some (.string ⟨#[]⟩) := cell_of_row _ _ 4 _ _ _ sC.1
        have HR := Lib.hid hR
        clear hR
        rw [mk71]
        go_wp2_with fail
        refine ⟨upd t 22 (.agg #[.int .u8 1, .int .i64 0, .int .i64 0, .string ⟨#[112]⟩, .string ⟨#[]⟩]), by rw [mk71]; simp [upd, b3], HR.out _ _ ⟨hU.upd 22 _ (by decide), sD, sC, sn, sz, (by simpa using cl), fun g => h0 (by simpa using g), fun g => h1 (by simpa using g), fun g => h2 (by simpa using g), fun g => h3 (by simpa using g), fun _ => rfl, fun g => h5 (by simpa using g), fun g => h6 (by simpa using g), fun g => h7 (by simpa using g), fun g => h8 (by simpa using g), fun g => h9 (by simpa using g), fun g => h10 (by simpa using g), fun g => h11 (by simpa using g), fun g => h12 (by simpa using g), fun g => h13 (by simpa using g), fun g => h14 (by simpa using g)⟩⟩
      · rintro L t W ⟨hU, sD, sC, sn, sz, cl, h0, h1, h2, h3, h4, h5, h6, h7, h8, h9, h10, h11, h12, h13, h14⟩ hi hd R hR
        have f3 := h3 (hd 3 (by kernel_rfl))
        have f4 := h4 (hd 4 (by kernel_rfl))
        have HR := Lib.hid hR
        clear hR
        rw [mk71]
        go_wp2_with fail
        refine (one_ok _ g sn).mono ?_
        rintro e W2 ⟨⟨a, n, cc, rfl⟩, hb⟩
        dsimp only
        go_wp2_with fail
        refine ⟨upd t 23 (.tuple #[.agg #[.string ⟨#[104, 101, 114, 101]⟩, .slice a n cc, .slice none 0 0, .int .i64 0, .int .i64 800], .agg #[.int .i64 0, .int .i64 1, .slice none 0 0, .slice none 0 0], .int .i64 0]), by rw [mk71]; simp [upd, f3, f4], HR.out _ _ ⟨hU.upd 23 _ (by decide), sD.keep hb, sC.keep hb, sn.keep hb, Nat.le_trans sz hb.size, (by simpa using cl), fun g => h0 (by simpa using g), fun g => h1 (by simpa using g), fun g => h2 (by simpa using g), fun g => h3 (by simpa using g), fun g => h4 (by simpa using g), fun _ => ⟨a, n, cc, rfl⟩, fun g => h6 (by simpa using g), fun g => h7 (by simpa using g), fun g => h8 (by simpa using g), fun g => h9 (by simpa using g), fun g => (by obtain ⟨b, cs, x1, x2, x3, x4⟩ := (h10 (by simpa using g)); exact ⟨b, cs, x1, x2, kept_blk hb x3, x4⟩), fun g => (by obtain ⟨b, cs, x1, x2, x3, x4⟩ := (h11 (by simpa using g)); exact ⟨b, cs, x1, x2, kept_blk hb x3, x4⟩), fun g => (by obtain ⟨b, a, n, cc, x1, x3⟩ := (h12 (by simpa using g)); exact ⟨b, a, n, cc, x1, kept_blk hb x3⟩), fun g => (by obtain ⟨b, x1, x3⟩ := (h13 (by simpa using g)); exact ⟨b, x1, kept_blk hb x3⟩), fun g => h14 (by simpa using g)⟩⟩
      · rintro L t W ⟨hU, sD, sC, sn, sz, cl, h0, h1, h2, h3, h4, h5, h6, h7, h8, h9, h10, h11, h12, h13, h14⟩ hi hd R hR
        have f5 := h5 (hd 5 (by kernel_rfl))
        obtain ⟨a, n, cc, f5⟩ := f5
        have HR := Lib.hid hR
        clear hR
        rw [mk71]
        go_wp2_with fail
        refine ⟨upd t 17 (.tuple #[.agg #[.string ⟨#[104, 101, 114, 101]⟩, .slice a n cc, .slice none 0 0, .int .i64 0, .int .i64 800], .agg #[.int .i64 0, .int .i64 1, .slice none 0 0, .slice none 0 0], .int .i64 0]), by rw [mk71]; simp [upd, f5], HR.out _ _ ⟨hU.upd 17 _ (by decide), sD, sC, sn, sz, (by simpa using cl), fun g => h0 (by simpa using g), fun g => h1 (by simpa using g), fun g => h2 (by simpa using g), fun g => h3 (by simpa using g), fun g => h4 (by simpa using g), fun g => h5 (by simpa using g), fun _ => ⟨a, n, cc, rfl⟩, fun g => h7 (by simpa using g), fun g => h8 (by simpa using g), fun g => h9 (by simpa using g), fun g => h10 (by simpa using g), fun g => h11 (by simpa using g), fun g => h12 (by simpa using g), fun g => h13 (by simpa using g), fun g => h14 (by simpa using g)⟩⟩
      · rintro L t W ⟨hU, sD, sC, sn, sz, cl, h0, h1, h2, h3, h4, h5, h6, h7, h8, h9, h10, h11, h12, h13, h14⟩ hi hd R hR
        have f6 := h6 (hd 6 (by kernel_rfl))
        obtain ⟨a, n, cc, f6⟩ := f6
        have HR := Lib.hid hR
        clear hR
        rw [mk71]
        go_wp2_with fail
        refine ⟨upd t 24 (.agg #[.string ⟨#[104, 101, 114, 101]⟩, .slice a n cc, .slice none 0 0, .int .i64 0, .int .i64 800]), by rw [mk71]; simp [upd, f6], HR.out _ _ ⟨hU.upd 24 _ (by decide), sD, sC, sn, sz, (by simpa using cl), fun g => h0 (by simpa using g), fun g => h1 (by simpa using g), fun g => h2 (by simpa using g), fun g => h3 (by simpa using g), fun g => h4 (by simpa using g), fun g => h5 (by simpa using g), fun g => h6 (by simpa using g), fun _ => ⟨a, n, cc, rfl⟩, fun g => h8 (by simpa using g), fun g => h9 (by simpa using g), fun g => h10 (by simpa using g), fun g => h11 (by simpa using g), fun g => h12 (by simpa using g), fun g => h13 (by simpa using g), fun g => h14 (by simpa using g)⟩⟩
      · rintro L t W ⟨hU, sD, sC, sn, sz, cl, h0, h1, h2, h3, h4, h5, h6, h7, h8, h9, h10, h11, h12, h13, h14⟩ hi hd R hR
        have f6 := h6 (hd 6 (by kernel_rfl))
        obtain ⟨a, n, cc, f6⟩ := f6
        have HR := Lib.hid hR
        clear hR
        rw [mk71]
        go_wp2_with fail
        refine ⟨upd t 25 (.agg #[.int .i64 0, .int .i64 1, .slice none 0 0, .slice none 0 0]), by rw [mk71]; simp [upd, f6], HR.out _ _ ⟨hU.upd 25 _ (by decide), sD, sC, sn, sz, (by simpa using cl), fun g => h0 (by simpa using g), fun g => h1 (by simpa using g), fun g => h2 (by simpa using g), fun g => h3 (by simpa using g), fun g => h4 (by simpa using g), fun g => h5 (by simpa using g), fun g => h6 (by simpa using g), fun g => h7 (by simpa using g), fun _ => rfl, fun g => h9 (by simpa using g), fun g => h10 (by simpa using g), fun g => h11 (by simpa using g), fun g => h12 (by simpa using g), fun g => h13 (by simpa using g), fun g => h14 (by simpa using g)⟩⟩
      · rintro L t W ⟨hU, sD, sC, sn, sz, cl, h0, h1, h2, h3, h4, h5, h6, h7, h8, h9, h10, h11, h12, h13, h14⟩ hi hd R hR
        have f6 := h6 (hd 6 (by kernel_rfl))
        obtain ⟨a, n, cc, f6⟩ := f6
        have HR := Lib.hid hR
        clear hR
        rw [mk71]
        go_wp2_with fail
        refine ⟨upd t 26 (.int .i64 0), by rw [mk71]; simp [upd, f6], HR.out _ _ ⟨hU.upd 26 _ (by decide), sD, sC, sn, sz, (by simpa using cl), fun g => h0 (by simpa using g), fun g => h1 (by simpa using g), fun g => h2 (by simpa using g), fun g => h3 (by simpa using g), fun g => h4 (by simpa using g), fun g => h5 (by simpa using g), fun g => h6 (by simpa using g), fun g => h7 (by simpa using g), fun g => h8 (by simpa using g), fun _ => rfl, fun g => h10 (by simpa using g), fun g => h11 (by simpa using g), fun g => h12 (by simpa using g), fun g => h13 (by simpa using g), fun g => h14 (by simpa using g)⟩⟩
      · rintro L t W ⟨hU, sD, sC, sn, sz, cl, h0, h1, h2, h3, h4, h5, h6, h7, h8, h9, h10, h11, h12, h13, h14⟩ hi hd R hR
        have hb : Below W.heap.size W (W.alloc (Obj.cells #[.string ⟨#[]⟩, .slice none 0 0, .slice none 0 0, .int .i64 0, .int .i64 0] 150)) := (Below.refl _ _).alloc (Nat.le_refl _) _
        have HR := Lib.hid hR
        clear hR
        rw [mk71]
        go_wp2_with fail
        refine ⟨upd t 5 (.pointer (some ⟨W.heap.size, 0, none⟩)), by rw [mk71]; simp [upd], HR.out _ _ ⟨hU.upd 5 _ (by decide), sD.keep hb, sC.keep hb, sn.keep hb, Nat.le_trans sz hb.size, (by simp; exact cl.2), fun g => h0 (by simpa using g), fun g => h1 (by simpa using g), fun g => h2 (by simpa using g), fun g => h3 (by simpa using g), fun g => h4 (by simpa using g), fun g => h5 (by simpa using g), fun g => h6 (by simpa using g), fun g => h7 (by simpa using g), fun g => h8 (by simpa using g), fun g => h9 (by simpa using g), fun _ => ⟨W.heap.size, _, rfl, sz, heap_alloc_new _ _, rfl⟩, fun g => (by obtain ⟨b, cs, x1, x2, x3, x4⟩ := (h11 (by simpa using g)); exact ⟨b, cs, x1, x2, kept_blk hb x3, x4⟩), fun g => absurd (cl.1 (by simpa using g)) (by simp [hi]), fun g => (by obtain ⟨b, x1, x3⟩ := (h13 (by simpa using g)); exact ⟨b, x1, kept_blk hb x3⟩), fun g => h14 (by simpa using g)⟩⟩
      · rintro L t W ⟨hU, sD, sC, sn, sz, cl, h0, h1, h2, h3, h4, h5, h6, h7, h8, h9, h10, h11, h12, h13, h14⟩ hi hd R hR
        have hb : Below W.heap.size W (W.alloc (Obj.cells #[.int .i64 0, .int .i64 0, .slice none 0 0, .slice none 0 0] 229)) := (Below.refl _ _).alloc (Nat.le_refl _) _
        have HR := Lib.hid hR
        clear hR
        rw [mk71]
        go_wp2_with fail
        refine ⟨upd t 6 (.pointer (some ⟨W.heap.size, 0, none⟩)), by rw [mk71]; simp [upd], HR.out _ _ ⟨hU.upd 6 _ (by decide), sD.keep hb, sC.keep hb, sn.keep hb, Nat.le_trans sz hb.size, (by simp; exact cl.1), fun g => h0 (by simpa using g), fun g => h1 (by simpa using g), fun g => h2 (by simpa using g), fun g => h3 (by simpa using g), fun g => h4 (by simpa using g), fun g => h5 (by simpa using g), fun g => h6 (by simpa using g), fun g => h7 (by simpa using g), fun g => h8 (by simpa using g), fun g => h9 (by simpa using g), fun g => (by obtain ⟨b, cs, x1, x2, x3, x4⟩ := (h10 (by simpa using g)); exact ⟨b, cs, x1, x2, kept_blk hb x3, x4⟩), fun _ => ⟨W.heap.size, _, rfl, sz, heap_alloc_new _ _, rfl⟩, fun g => (by obtain ⟨b, a, n, cc, x1, x3⟩ := (h12 (by simpa using g)); exact ⟨b, a, n, cc, x1, kept_blk hb x3⟩), fun g => absurd (cl.2 (by simpa using g)) (by simp [hi]), fun g => h14 (by simpa using g)⟩⟩
      · rintro L t W ⟨hU, sD, sC, sn, sz, cl, h0, h1, h2, h3, h4, h5, h6, h7, h8, h9, h10, h11, h12, h13, h14⟩ hi hd R hR
        have f10 := h10 (hd 10 (by kernel_rfl))
        have f7 := h7 (hd 7 (by kernel_rfl))
        obtain ⟨b, cs, x1, x2, x3, x4⟩ := f10
        obtain ⟨a, n, cc, x9⟩ := f7
        have HR := Lib.hid hR
        clear hR
        rw [mk71]
        go_wp2_with (refine wpList_store_row rfl 150 _ _ rfl b #[.string ⟨#[104, 101, 114, 101]⟩, .slice a n cc, .slice none 0 0, .int .i64 0, .int .i64 800] x1 x9 150 cs x3 (by kernel_rfl) x4 (by kernel_rfl) ?_)
        refine ⟨t, by rw [mk71]; simp [x1, x9], HR.out _ _ ⟨hU, sD.row_other (g := b) (fun hx => absurd (hX _ hx) (by omega)) (by omega) #[.string ⟨#[104, 101, 114, 101]⟩, .slice a n cc, .slice none 0 0, .int .i64 0, .int .i64 800], sC.row_other (g := b) (fun hx => absurd (hX _ hx) (by omega)) (by omega) #[.string ⟨#[104, 101, 114, 101]⟩, .slice a n cc, .slice none 0 0, .int .i64 0, .int .i64 800], sn.row_other (by omega) #[.string ⟨#[104, 101, 114, 101]⟩, .slice a n cc, .slice none 0 0, .int .i64 0, .int .i64 800], (by rw [setRow_size]; exact sz), (by have q := hd 10 (by kernel_rfl); simp [q]; exact cl.2), fun g => h0 (by simpa using g), fun g => h1 (by simpa using g), fun g => h2 (by simpa using g), fun g => h3 (by simpa using g), fun g => h4 (by simpa using g), fun g => h5 (by simpa using g), fun g => h6 (by simpa using g), fun g => h7 (by simpa using g), fun g => h8 (by simpa using g), fun g => h9 (by simpa using g), fun g => ⟨b, #[.string ⟨#[104, 101, 114, 101]⟩, .slice a n cc, .slice none 0 0, .int .i64 0, .int .i64 800], x1, x2, setRow_heap _ _ _ _ _ _ x3, rfl⟩, fun g => (by obtain ⟨b2, cs2, z1, z2, z3, z4⟩ := (h11 (by simpa using g)); exact ⟨b2, cs2, z1, z2, (setRow_other _ _ _ _ (blk_ne x3 z3 (by decide))).trans z3, z4⟩), fun _ => ⟨b, a, n, cc, x1, setRow_heap _ _ _ _ _ _ x3⟩, fun g => (by obtain ⟨b2, z1, z3⟩ := (h13 (by simpa using g)); exact ⟨b2, z1, (setRow_other _ _ _ _ (blk_ne x3 z3 (by decide))).trans z3⟩), fun g => h14 (by simpa using g)⟩⟩
      · rintro L t W ⟨hU, sD, sC, sn, sz, cl, h0, h1, h2, h3, h4, h5, h6, h7, h8, h9, h10, h11, h12, h13, h14⟩ hi hd R hR
        have f11 := h11 (hd 11 (by kernel_rfl))
        have f8 := h8 (hd 8 (by kernel_rfl))
        obtain ⟨b, cs, x1, x2, x3, x4⟩ := f11
        have HR := Lib.hid hR
        clear hR
        rw [mk71]
        go_wp2_with (refine wpList_store_row rfl 229 _ _ rfl b #[.int .i64 0, .int .i64 1, .slice none 0 0, .slice none 0 0] x1 f8 229 cs x3 (by kernel_rfl) x4 (by kernel_rfl) ?_)
        refine ⟨t, by rw [mk71]; simp [x1, f8], HR.out _ _ ⟨hU, sD.row_other (g := b) (fun hx => absurd (hX _ hx) (by omega)) (by omega) #[.int .i64 0, .int .i64 1, .slice none 0 0, .slice none 0 0], sC.row_other (g := b) (fun hx => absurd (hX _ hx) (by omega)) (by omega) #[.int .i64 0, .int .i64 1, .slice none 0 0, .slice none 0 0], sn.row_other (by omega) #[.int .i64 0, .int .i64 1, .slice none 0 0, .slice none 0 0], (by rw [setRow_size]; exact sz), (by have q := hd 11 (by kernel_rfl); simp [q]; exact cl.1), fun g => h0 (by simpa using g), fun g => h1 (by simpa using g), fun g => h2 (by simpa using g), fun g => h3 (by simpa using g), fun g => h4 (by simpa using g), fun g => h5 (by simpa using g), fun g => h6 (by simpa using g), fun g => h7 (by simpa using g), fun g => h8 (by simpa using g), fun g => h9 (by simpa using g), fun g => (by obtain ⟨b2, cs2, z1, z2, z3, z4⟩ := (h10 (by simpa using g)); exact ⟨b2, cs2, z1, z2, (setRow_other _ _ _ _ (blk_ne x3 z3 (by decide))).trans z3, z4⟩), fun g => ⟨b, #[.int .i64 0, .int .i64 1, .slice none 0 0, .slice none 0 0], x1, x2, setRow_heap _ _ _ _ _ _ x3, rfl⟩, fun g => (by obtain ⟨b2, a, n, cc, z1, z3⟩ := (h12 (by simpa using g)); exact ⟨b2, a, n, cc, z1, (setRow_other _ _ _ _ (blk_ne x3 z3 (by decide))).trans z3⟩), fun _ => ⟨b, x1, setRow_heap _ _ _ _ _ _ x3⟩, fun g => h14 (by simpa using g)⟩⟩
      · rintro L t W ⟨hU, sD, sC, sn, sz, cl, h0, h1, h2, h3, h4, h5, h6, h7, h8, h9, h10, h11, h12, h13, h14⟩ hi hd R hR
        have f9 := h9 (hd 9 (by kernel_rfl))
        have HR := Lib.hid hR
        clear hR
        rw [mk71]
        go_wp2_with fail
        refine ⟨upd t 7 (.int .i64 0), by rw [mk71]; simp [upd, f9], HR.out _ _ ⟨hU.upd 7 _ (by decide), sD, sC, sn, sz, (by simpa using cl), fun g => h0 (by simpa using g), fun g => h1 (by simpa using g), fun g => h2 (by simpa using g), fun g => h3 (by simpa using g), fun g => h4 (by simpa using g), fun g => h5 (by simpa using g), fun g => h6 (by simpa using g), fun g => h7 (by simpa using g), fun g => h8 (by simpa using g), fun g => h9 (by simpa using g), fun g => h10 (by simpa using g), fun g => h11 (by simpa using g), fun g => h12 (by simpa using g), fun g => h13 (by simpa using g), fun _ => rfl⟩⟩
    case last =>
      rintro L t W hU ⟨sD, sC, sn, sz, cl, h0, h1, h2, h3, h4, h5, h6, h7, h8, h9, h10, h11, h12, h13, h14⟩ hall
      have f12 := h12 (hall 12 (by decide))
      have f13 := h13 (hall 13 (by decide))
      have f14 := h14 (hall 14 (by decide))
      obtain ⟨b1, a, n, cc, x1, x2⟩ := f12
      obtain ⟨b2, y1, y2⟩ := f13
      obtain ⟨c1, cs1, z1, z2, _⟩ := h10 (hall 10 (by decide))
      obtain ⟨c2, cs2, u1, u2, _⟩ := h11 (hall 11 (by decide))
      have e1 : c1 = b1 := by rw [x1] at z1; injection z1 with z1; injection z1 with z1; injection z1 with z1; exact z1.symm
      have e2 : c2 = b2 := by rw [y1] at u1; injection u1 with u1; injection u1 with u1; injection u1 with u1; exact u1.symm
      subst e1 e2
      have b0 := hU 0 (by decide)
      have b1 := hU 1 (by decide)
      have b2 := hU 2 (by decide)
      have b3 := hU 3 (by decide)
      have b4 := hU 4 (by decide)
      have b8 := hU 8 (by decide)
      simp at b0 b1 b2 b3 b4 b8
      rw [mk71]
      simp only [b0, b1, b2, b3, b4, b8, f14, z1, u1]
      go_wp2_with fail
      go_meet
      exact ⟨rfl, c1, c2, rfl, rfl, a, n, cc, ⟨x2, sD.2⟩, ⟨y2, sD.2⟩, sD, sC, z2, u2⟩
  case rest =>
    obtain ⟨rfl, b1, b2, rfl, rfl, a, n, cc, hB1, hB2, hD3, hC3, l1, l2⟩ := hcut
    have z0 : (wc).cell? ⟨b2, 0, none⟩ = some (.int .i64 0) := cell_of_row _ _ 0 _ _ _ hB2.1
    have z1 : (wc).cell? ⟨b2, 1, none⟩ = some (.int .i64 1) := cell_of_row _ _ 1 _ _ _ hB2.1
    have z2 : (wc).cell? ⟨b2, 2, none⟩ = some (.slice none 0 0) := cell_of_row _ _ 2 _ _ _ hB2.1
    have z3 : (wc).cell? ⟨b2, 3, none⟩ = some (.slice none 0 0) := cell_of_row _ _ 3 _ _ _ hB2.1
    go_wp2_with fail
    refine (line_ok _).mono ?_
    rintro e w5 ⟨rfl, hb⟩
    replace hB1 := hB1.keep hb
    replace hB2 := hB2.keep hb
    replace hD3 := hD3.keep hb
    replace hC3 := hC3.keep hb
    clear hb z0 z1 z2 z3
    have x0 : (w5).cell? ⟨b1, 0, none⟩ = some (.string ⟨#[104, 101, 114, 101]⟩) := cell_of_row _ _ 0 _ _ _ hB1.1
    have x1 : (w5).cell? ⟨b1, 1, none⟩ = some (.slice a n cc) := cell_of_row _ _ 1 _ _ _ hB1.1
    have x2 : (w5).cell? ⟨b1, 2, none⟩ = some (.slice none 0 0) := cell_of_row _ _ 2 _ _ _ hB1.1
    have x3 : (w5).cell? ⟨b1, 3, none⟩ = some (.int .i64 0) := cell_of_row _ _ 3 _ _ _ hB1.1
    have x4 : (w5).cell? ⟨b1, 4, none⟩ = some (.int .i64 800) := cell_of_row _ _ 4 _ _ _ hB1.1
    have z0 : (w5).cell? ⟨b2, 0, none⟩ = some (.int .i64 0) := cell_of_row _ _ 0 _ _ _ hB2.1
    have z1 : (w5).cell? ⟨b2, 1, none⟩ = some (.int .i64 1) := cell_of_row _ _ 1 _ _ _ hB2.1
    have z2 : (w5).cell? ⟨b2, 2, none⟩ = some (.slice none 0 0) := cell_of_row _ _ 2 _ _ _ hB2.1
    have z3 : (w5).cell? ⟨b2, 3, none⟩ = some (.slice none 0 0) := cell_of_row _ _ 3 _ _ _ hB2.1
    have c0 : (w5).cell? ⟨w.heap.size, 0, none⟩ = some (.int .u8 1) := cell_of_row _ _ 0 _ _ _ hC3.1
    have c1 : (w5).cell? ⟨w.heap.size, 1, none⟩ = some (.int .i64 0) := cell_of_row _ _ 1 _ _ _ hC3.1
    have c2 : (w5).cell? ⟨w.heap.size, 2, none⟩ = some (.int .i64 0) := cell_of_row _ _ 2 _ _ _ hC3.1
    have c3 : (w5).cell? ⟨w.heap.size, 3, none⟩ = some (.string ⟨#[112]⟩) := cell_of_row _ _ 3 _ _ _ hC3.1
    have c4 : (w5).cell? ⟨w.heap.size, 4, none⟩ = some (.string ⟨#[]⟩) := cell_of_row _ _ 4 _ _ _ hC3.1
    have d0 : (w5).cell? ⟨d, 0, none⟩ = some (.string ⟨#[104, 101, 114, 101]⟩) := cell_of_row _ _ 0 _ _ _ hD3.1
    have d1 : (w5).cell? ⟨d, 1, none⟩ = some (.slice none 0 0) := cell_of_row _ _ 1 _ _ _ hD3.1
    have d2 : (w5).cell? ⟨d, 2, none⟩ = some (.int .i64 800) := cell_of_row _ _ 2 _ _ _ hD3.1
    have d3 : (w5).cell? ⟨d, 3, none⟩ = some (.slice none 0 0) := cell_of_row _ _ 3 _ _ _ hD3.1
    have d4 : (w5).cell? ⟨d, 4, none⟩ = some (.string ⟨#[104, 101, 114, 101]⟩) := cell_of_row _ _ 4 _ _ _ hD3.1
    have d5 : (w5).cell? ⟨d, 5, none⟩ = some (.slice (some ⟨g, 0, none⟩) 1 1) := cell_of_row _ _ 5 _ _ _ hD3.1
    have d6 : (w5).cell? ⟨d, 6, none⟩ = some (.slice none 0 0) := cell_of_row _ _ 6 _ _ _ hD3.1
    have d7 : (w5).cell? ⟨d, 7, none⟩ = some (.int .i64 0) := cell_of_row _ _ 7 _ _ _ hD3.1
    have d8 : (w5).cell? ⟨d, 8, none⟩ = some (.int .i64 800) := cell_of_row _ _ 8 _ _ _ hD3.1
    have d9 : (w5).cell? ⟨d, 9, none⟩ = some (.slice none 0 0) := cell_of_row _ _ 9 _ _ _ hD3.1
    have df : ∀ j, w5.frozen? ⟨d, j, none⟩ = false := fun j => by simp [World.frozen?, hD3.1]
    have ne1 : w.heap.size ≠ d := by omega
    have ne2 : b1 ≠ d := by omega
    go_wp2_with fail
    have hD6 : LiesX X w0 _ d (.cells #[.string ⟨#[104, 101, 114, 101]⟩, .slice none 0 0, .int .i64 800, .slice none 0 0, .string ⟨#[104, 101, 114, 101]⟩, .slice a n cc, .slice none 0 0, .int .i64 0, .int .i64 800, .slice none 0 0] 152 (0, 0)) := (((((hD3.cell hB 4 (.string ⟨#[104, 101, 114, 101]⟩)).cell hB 5 (.slice a n cc)).cell hB 6 (.slice none 0 0)).cell hB 7 (.int .i64 0)).cell hB 8 (.int .i64 800))
    have hC6 := (((((hC3.cell_other hB ne1 4 (.string ⟨#[104, 101, 114, 101]⟩)).cell_other hB ne1 5 (.slice a n cc)).cell_other hB ne1 6 (.slice none 0 0)).cell_other hB ne1 7 (.int .i64 0)).cell_other hB ne1 8 (.int .i64 800))
    generalize World.setCell _ _ _ = W6 at hD6 hC6 ⊢
    clear x0 x1 x2 x3 x4 z0 z1 z2 z3 c0 c1 c2 c3 c4 d0 d1 d2 d3 d4 d5 d6 d7 d8 d9 df
    have c0 : (W6).cell? ⟨w.heap.size, 0, none⟩ = some (.int .u8 1) := cell_of_row _ _ 0 _ _ _ hC6.1
    have c1 : (W6).cell? ⟨w.heap.size, 1, none⟩ = some (.int .i64 0) := cell_of_row _ _ 1 _ _ _ hC6.1
    have c2 : (W6).cell? ⟨w.heap.size, 2, none⟩ = some (.int .i64 0) := cell_of_row _ _ 2 _ _ _ hC6.1
    have c3 : (W6).cell? ⟨w.heap.size, 3, none⟩ = some (.string ⟨#[112]⟩) := cell_of_row _ _ 3 _ _ _ hC6.1
    have c4 : (W6).cell? ⟨w.heap.size, 4, none⟩ = some (.string ⟨#[]⟩) := cell_of_row _ _ 4 _ _ _ hC6.1
    have d0 : (W6).cell? ⟨d, 0, none⟩ = some (.string ⟨#[104, 101, 114, 101]⟩) := cell_of_row _ _ 0 _ _ _ hD6.1
    have d1 : (W6).cell? ⟨d, 1, none⟩ = some (.slice none 0 0) := cell_of_row _ _ 1 _ _ _ hD6.1
    have d2 : (W6).cell? ⟨d, 2, none⟩ = some (.int .i64 800) := cell_of_row _ _ 2 _ _ _ hD6.1
    have d3 : (W6).cell? ⟨d, 3, none⟩ = some (.slice none 0 0) := cell_of_row _ _ 3 _ _ _ hD6.1
    have d4 : (W6).cell? ⟨d, 4, none⟩ = some (.string ⟨#[104, 101, 114, 101]⟩) := cell_of_row _ _ 4 _ _ _ hD6.1
    have d5 : (W6).cell? ⟨d, 5, none⟩ = some (.slice a n cc) := cell_of_row _ _ 5 _ _ _ hD6.1
    have d6 : (W6).cell? ⟨d, 6, none⟩ = some (.slice none 0 0) := cell_of_row _ _ 6 _ _ _ hD6.1
    have d7 : (W6).cell? ⟨d, 7, none⟩ = some (.int .i64 0) := cell_of_row _ _ 7 _ _ _ hD6.1
    have d8 : (W6).cell? ⟨d, 8, none⟩ = some (.int .i64 800) := cell_of_row _ _ 8 _ _ _ hD6.1
    have d9 : (W6).cell? ⟨d, 9, none⟩ = some (.slice none 0 0) := cell_of_row _ _ 9 _ _ _ hD6.1
    have hl6 := hD6.lt
    have hl7 : d < W6.heap.size + 1 := by omega
    have hlc : w.heap.size < W6.heap.size := hC6.lt
    have hlc1 : w.heap.size < W6.heap.size + 1 := by omega
    have hS : ((W6.alloc (Obj.cells #[.int .u8 1, .int .i64 0, .int .i64 0, .string ⟨#[112]⟩, .string ⟨#[]⟩] 188)).alloc (Obj.cells #[.slice none 0 0, .slice (some ⟨W6.heap.size, 0, none⟩) 1 1] 141)).drew.heap[W6.heap.size + 1]? = some (Obj.cells #[.slice none 0 0, .slice (some ⟨W6.heap.size, 0, none⟩) 1 1] 141) := by
      have := heap_alloc_new (W6.alloc (Obj.cells #[.int .u8 1, .int .i64 0, .int .i64 0, .string ⟨#[112]⟩, .string ⟨#[]⟩] 188)) (Obj.cells #[.slice none 0 0, .slice (some ⟨W6.heap.size, 0, none⟩) 1 1] 141)
      rwa [World.size_alloc] at this
    have hK : ((W6.alloc (Obj.cells #[.int .u8 1, .int .i64 0, .int .i64 0, .string ⟨#[112]⟩, .string ⟨#[]⟩] 188)).alloc (Obj.cells #[.slice none 0 0, .slice (some ⟨W6.heap.size, 0, none⟩) 1 1] 141)).drew.heap[W6.heap.size]? = some (Obj.cells #[.int .u8 1, .int .i64 0, .int .i64 0, .string ⟨#[112]⟩, .string ⟨#[]⟩] 188) := kept_blk (W := W6.alloc (Obj.cells #[.int .u8 1, .int .i64 0, .int .i64 0, .string ⟨#[112]⟩, .string ⟨#[]⟩] 188)) (W' := (W6.alloc (Obj.cells #[.int .u8 1, .int .i64 0, .int .i64 0, .string ⟨#[112]⟩, .string ⟨#[]⟩] 188)).alloc (Obj.cells #[.slice none 0 0, .slice (some ⟨W6.heap.size, 0, none⟩) 1 1] 141)) ((Below.refl _ _).alloc (Nat.le_refl _) (Obj.cells #[.slice none 0 0, .slice (some ⟨W6.heap.size, 0, none⟩) 1 1] 141)) (heap_alloc_new W6 (Obj.cells #[.int .u8 1, .int .i64 0, .int .i64 0, .string ⟨#[112]⟩, .string ⟨#[]⟩] 188))
    have hDk := ((hD6.alloc (Obj.cells #[.int .u8 1, .int .i64 0, .int .i64 0, .string ⟨#[112]⟩, .string ⟨#[]⟩] 188)).alloc (Obj.cells #[.slice none 0 0, .slice (some ⟨W6.heap.size, 0, none⟩) 1 1] 141)).drew
    go_region_with (go_at_call 157; refine (concat_ok _ (W6.heap.size + 1) W6.heap.size hS hK).mono ?_; rintro e w7 ⟨⟨a2, n2, c2, rfl⟩, hb7⟩; have hD7 := hDk.keep hb7; have e3 : w7.cell? ⟨d, 3, none⟩ = some (.slice none 0 0) := cell_of_row _ _ 3 _ _ _ hD7.1; have e4 : w7.frozen? ⟨d, 3, none⟩ = false := (by simp [World.frozen?, hD7.1]))
    all_goals
      go_wp2_with fail
      go_ret
      exact ⟨rfl, (hD7.cell hB 3 _).2⟩
end Go.Proofs.YtgkamgijnhbcbaaGreatDoor
