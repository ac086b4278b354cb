/- The three calls of package nth's law fulfil its contract. -/
import Derived.Test.YtgkamgijnhbcbaaGreatDoorNth
import Derived.Test.YtgkamgijnhbcbaaGreatDoorGave
import Derived.Test.YtgkamgijnhbcbaaGreatDoorSeeAny
import Derived.WalkKit
import Derived.WalkSpells
import Derived.WalkLawsBesides
import Derived.Deep.RegionWith
import Derived.RegionTactic
import Derived.StillTailTactics
import Derived.Test.YtgkamgijnhbcbaaGreatDoorGen
namespace Go.Proofs.YtgkamgijnhbcbaaGreatDoor
open Go.RowKit Go.Vt Go.Proofs
/-- y's cells. -/
theorem y_at_Nth {F : Nat → Prop} {w : World} {b : Nat} {cs : List C} (ht : HtRow tab [.sl 132, .int .i64, .bool, .sl 4, .int .i64, .int .i64] cs) (h : RdRow F w b 0 cs) :
    ∃ (a : _) (len : _) (cap : _) (rows : _) (i1 : Int) (b2 : Bool) (ai : _) (li : _) (ci : _) (bs : _) (i4 : Int) (i5 : Int), cs = [.sl 4 len cap rows, .int .i64 i1, .bool b2, .sl 1 li ci bs, .int .i64 i4, .int .i64 i5] ∧ Rd F w (.sl 4 len cap rows) (.slice a len cap) ∧ HtRows tab [.str, .sl 201, .int .i64, .sl 3] rows ∧ Rd F w (.sl 1 li ci bs) (.slice ai li ci) ∧ HtRows tab [.bool] bs ∧
      w.cell? ⟨b, 0, none⟩ = some (.slice a len cap) ∧ w.cell? ⟨b, 1, none⟩ = some (.int .i64 i1) ∧ w.cell? ⟨b, 2, none⟩ = some (.bool b2) ∧ w.cell? ⟨b, 3, none⟩ = some (.slice ai li ci) ∧ w.cell? ⟨b, 4, none⟩ = some (.int .i64 i4) ∧ w.cell? ⟨b, 5, none⟩ = some (.int .i64 i5) := by
  obtain ⟨c0, cs0, rfl, k0, h1⟩ := ht.cons
  obtain ⟨c1, cs1, rfl, k1, h2⟩ := h1.cons
  obtain ⟨c2, cs2, rfl, k2, h3⟩ := h2.cons
  obtain ⟨c3, cs3, rfl, k3, h4⟩ := h3.cons
  obtain ⟨c4, cs4, rfl, k4, h5⟩ := h4.cons
  obtain ⟨c5, cs5, rfl, k5, h6⟩ := h5.cons
  obtain rfl := h6.nil
  obtain ⟨len, cap, rows, rfl, g1⟩ := ht_slE k0
  obtain ⟨i1, rfl⟩ := ht_int k1
  obtain ⟨b2, rfl⟩ := ht_bool k2
  obtain ⟨li, ci, bs, rfl, g2⟩ := ht_slE k3
  obtain ⟨i4, rfl⟩ := ht_int k4
  obtain ⟨i5, rfl⟩ := ht_int k5
  simp only [RdRow, and_true] at h
  obtain ⟨⟨v0, q0, r0⟩, ⟨v1, q1, r1⟩, ⟨v2, q2, r2⟩, ⟨v3, q3, r3⟩, ⟨v4, q4, r4⟩, ⟨v5, q5, r5⟩⟩ := h
  have r' := r0
  have r'' := r3
  simp only [Rd] at r0 r1 r2 r3 r4 r5
  obtain ⟨a, rfl, _⟩ := r0
  obtain ⟨ai, rfl, _⟩ := r3
  subst r1 r2 r4 r5
  exact ⟨a, len, cap, rows, i1, b2, ai, li, ci, bs, i4, i5, rfl, r', g1, r'', g2, q0, q1, q2, q3, q4, q5⟩
set_option maxRecDepth 100000 in
theorem see_f29 (n : Nat) : SeeOK Tryz.prog 3 9 tab n 29 [.sl 4] := by
  intro mk rm cs F w be oe B b o ns ss at_ hn h
  have hc := see_yess n mk rm cs F w be oe B b o ns ss at_ hn h
  have HC := Lib.hid hc
  clear hc h hn
  go_enter Tryz.func29, Tryz.ntmps29
  go_wp2_with fail
  refine HC.out.mono ?_
  rintro e w1 ⟨rfl, hp⟩
  go_wp2_with fail
  go_end0
  exact ⟨rfl, hp⟩
end Go.Proofs.YtgkamgijnhbcbaaGreatDoor
namespace Go.Proofs.YtgkamgijnhbcbaaGreatDoor
open Go.RowKit Go.Vt Go.Proofs
set_option maxRecDepth 100000 in
theorem call_nthplace (n : Nat) : CallOK Tryz.prog 3 9 tab n 23 [.sl 132, .int .i64, .bool, .sl 4, .int .i64, .int .i64] := by
  intro F W b cs hn ht hr hb hF
  obtain ⟨a, len, cap, rows, i1, b2, ai, li, ci, bs, i4, i5, rfl, h1, h2, h3, h4, q0, q1, q2, q3, q4, q5⟩ := y_at_Nth ht hr
  have hnn : nodesRows rows ≤ 1099511627776 := by
    simp only [nodesRow, nodes, limY] at hn; omega
  have hc := nthPlaceW_ok F W.drew a ai i1 b2 len cap li ci rows bs (Rd.mono (w := W) (w' := W.drew) (fun k hk => ⟨hk, rfl⟩) _ _ h1) h2 hF hnn (Rd.mono (w := W) (w' := W.drew) (fun k hk => ⟨hk, rfl⟩) _ _ h3) h4
  have HC := Lib.hid hc
  clear hc h1 h2 h3 h4 hr ht hn
  go_enter Tryz.func23, Tryz.ntmps23
  go_wp2_with fail
  go_still_tail 16, (by kernel_rfl)
  change wpList _ _ _ _ _ W.drew
  go_wp2_with fail
  refine HC.out.mono ?_
  rintro e w1 ⟨⟨_, _, rfl⟩, hb1⟩
  go_wp2_with fail
  go_ret
  exact ⟨_, [], rfl, gave_nil, ⟨hb1.os, hb1.tape, hb1.output, hb1.size, hb1.block⟩⟩
set_option maxRecDepth 100000 in
theorem call_nthmatch (n : Nat) : CallOK Tryz.prog 3 9 tab n 25 [.sl 132, .int .i64, .bool, .sl 4, .int .i64, .int .i64] := by
  intro F W b cs hn ht hr hb hF
  obtain ⟨a, len, cap, rows, i1, b2, ai, li, ci, bs, i4, i5, rfl, h1, h2, h3, h4, q0, q1, q2, q3, q4, q5⟩ := y_at_Nth ht hr
  have hnn : nodesRows rows ≤ 1099511627776 := by
    simp only [nodesRow, nodes, limY] at hn; omega
  have hc := nthMatchW_ok F W.drew a ai i1 i4 i5 b2 len cap li ci rows bs (Rd.mono (w := W) (w' := W.drew) (fun k hk => ⟨hk, rfl⟩) _ _ h1) h2 hF hnn (Rd.mono (w := W) (w' := W.drew) (fun k hk => ⟨hk, rfl⟩) _ _ h3) h4
  have HC := Lib.hid hc
  clear hc h1 h2 h3 h4 hr ht hn
  go_enter Tryz.func25, Tryz.ntmps25
  go_wp2_with fail
  go_still_tail 20, (by kernel_rfl)
  change wpList _ _ _ _ _ W.drew
  go_wp2_with fail
  refine HC.out.mono ?_
  rintro e w1 ⟨⟨_, _, rfl⟩, hb1⟩
  go_wp2_with fail
  go_ret
  exact ⟨_, [], rfl, gave_nil, ⟨hb1.os, hb1.tape, hb1.output, hb1.size, hb1.block⟩⟩
end Go.Proofs.YtgkamgijnhbcbaaGreatDoor
namespace Go.Proofs.YtgkamgijnhbcbaaGreatDoor
open Go.RowKit Go.Vt Go.Proofs
theorem mk27 (t : Nat → Value) : mk 27 t = (t 0 :: t 1 :: t 2 :: t 3 :: t 4 :: t 5 :: t 6 :: t 7 :: t 8 :: t 9 :: t 10 :: t 11 :: t 12 :: t 13 :: t 14 :: t 15 :: t 16 :: t 17 :: t 18 :: t 19 :: t 20 :: t 21 :: t 22 :: t 23 :: t 24 :: t 25 :: t 26 :: []).toArray := rfl

set_option maxRecDepth 100000 in
set_option maxHeartbeats 4000000 in
theorem call_nthall : CallOK Tryz.prog 3 9 tab limO 27 [.sl 132, .int .i64, .bool, .sl 4, .int .i64, .int .i64] := by
  intro F w b cs hn ht hr hb hF
  obtain ⟨a, len, cap, rows, i1, b2, ai, li, ci, bs, i4, i5, rfl, h1, h2, h3, h4, q0, q1, q2, q3, q4, q5⟩ := y_at_Nth ht hr
  have hnn : nodesRows rows ≤ 1099511627776 := by
    simp only [nodesRow, nodes, limY] at hn; omega
  have hbl : b < w.heap.size := hF b hb
  have hc : ∀ B W', B ≤ W'.heap.size → Below w.heap.size w W' → Calls Tryz.prog 28 #[.agg #[.slice a len cap], .agg #[.int .i64 i4, .int .i64 i5], .bool b2, .slice ai li ci] W' fun e w' => ∃ a1 l1 c1 n, e = .returned (.tuple #[.slice a1 l1 c1, .int .i64 n]) ∧ NewBools B 200 w' (.slice a1 l1 c1) ∧ Below W'.heap.size W' w' ∧ Below w.heap.size w w' := by
    intro B W' hB hW
    refine (nthAll_ok F W' a ai i4 i5 b2 len cap li ci rows bs (Rd.mono (fun k hk => ⟨hk, hW.block k (hF k hk)⟩) _ _ h1) h2 (fun k hk => Nat.lt_of_lt_of_le (hF k hk) hW.size) hnn (Rd.mono (fun k hk => ⟨hk, hW.block k (hF k hk)⟩) _ _ h3) h4).mono ?_
    rintro e w' ⟨⟨v, n, rfl, len', cap', rows', m1, m2, m3⟩, hb⟩
    have m0 := m1
    simp only [Rd] at m0
    obtain ⟨a1, rfl, _⟩ := m0
    exact ⟨a1, len', cap', n, rfl, ⟨len', cap', rows', Rd.mono (Nw.lower hB) _ _ m1, m2, by omega⟩, hb, hW.trans (hb.mono hW.size)⟩
  have HC := Lib.hid hc
  clear hc h1 h2 h3 h4 hr ht hn
  go_enter Tryz.func27, Tryz.ntmps27
  go_wp2_with fail
  refine wp_region_plan [6, 7, 8, 9, 10, 11, 12, 13, 14, 15, 16, 17, 18, 19, 20, 21, 22, 5, 23, 24, 3, 4] 27 (fun (L : Nat → Bool) (t : Nat → Value) (W : World) => Below w.heap.size w W ∧ ((L 17 = true → L 16 = true) ∧ (L 18 = true → L 16 = true) ∧ (L 19 = true → L 16 = true) ∧ (L 21 = true → L 16 = true) ∧ (L 21 = true → L 20 = true)) ∧ (L 0 = true → t 6 = .pointer (some ⟨b, 0, none⟩)) ∧ (L 1 = true → t 7 = .pointer (some ⟨b, 0, none⟩)) ∧ (L 2 = true → t 8 = .pointer (some ⟨b, 0, none⟩)) ∧ (L 3 = true → t 9 = .agg #[.slice a len cap]) ∧ (L 4 = true → t 10 = .pointer (some ⟨b, 0, none⟩)) ∧ (L 5 = true → t 11 = .pointer (some ⟨b, 0, none⟩)) ∧ (L 6 = true → t 12 = .pointer (some ⟨b, 4, none⟩)) ∧ (L 7 = true → t 13 = .agg #[.int .i64 i4, .int .i64 i5]) ∧ (L 8 = true → t 14 = .pointer (some ⟨b, 0, none⟩)) ∧ (L 9 = true → t 15 = .pointer (some ⟨b, 0, none⟩)) ∧ (L 10 = true → t 16 = .pointer (some ⟨b, 2, none⟩)) ∧ (L 11 = true → t 17 = .bool b2) ∧ (L 12 = true → t 18 = .pointer (some ⟨b, 0, none⟩)) ∧ (L 13 = true → t 19 = .pointer (some ⟨b, 0, none⟩)) ∧ (L 14 = true → t 20 = .pointer (some ⟨b, 3, none⟩)) ∧ (L 15 = true → t 21 = .slice ai li ci) ∧ (L 16 = true → ∃ a1 l1 c1 n, t 22 = .tuple #[.slice a1 l1 c1, .int .i64 n] ∧ ∃ len1 cap1 rows1, Rd (fun k => Nw w.heap.size W k ∧ (L 20 = true → t 3 ≠ .pointer (some ⟨k, 0, none⟩))) W (.sl 1 len1 cap1 rows1) (.slice a1 l1 c1) ∧ HtRows tab [.bool] rows1 ∧ nodesRows rows1 ≤ 200) ∧ (L 17 = true → ∃ a1 l1 c1 n, t 22 = .tuple #[.slice a1 l1 c1, .int .i64 n] ∧ t 5 = .tuple #[.slice a1 l1 c1, .int .i64 n]) ∧ (L 18 = true → ∃ a1 l1 c1 n, t 22 = .tuple #[.slice a1 l1 c1, .int .i64 n] ∧ t 23 = .slice a1 l1 c1) ∧ (L 19 = true → ∃ a1 l1 c1 n, t 22 = .tuple #[.slice a1 l1 c1, .int .i64 n] ∧ t 24 = .int .i64 n) ∧ (L 20 = true → ∃ p x, t 3 = .pointer (some ⟨p, 0, none⟩) ∧ w.heap.size ≤ p ∧ W.heap[p]? = some (.cells #[x] 45 (0, 0))) ∧ (L 21 = true → ∃ p a1 l1 c1 n, t 3 = .pointer (some ⟨p, 0, none⟩) ∧ t 22 = .tuple #[.slice a1 l1 c1, .int .i64 n] ∧ W.heap[p]? = some (.cells #[.slice a1 l1 c1] 45 (0, 0))) ∧ (L 22 = true → ∃ n, t 4 = .int .i64 n)) (by kernel_rfl) (by kernel_rfl) rfl ?start ?steps ?last
  case start => exact ⟨below_drew (Below.refl _ _), ⟨fun g => by simp at g, fun g => by simp at g, fun g => by simp at g, fun g => by simp at g, fun g => by simp at g⟩, fun g => by simp at g, fun g => by simp at g, fun g => by simp at g, fun g => by simp at g, fun g => by simp at g, fun g => by simp at g, fun g => by simp at g, fun g => by simp at g, fun g => by simp at g, fun g => by simp at g, fun g => by simp at g, fun g => by simp at g, fun g => by simp at g, fun g => by simp at g, fun g => by simp at g, fun g => by simp at g, fun g => by simp at g, fun g => by simp at g, fun g => by simp at g, fun g => by simp at g, fun g => by simp at g, fun g => by simp at g, fun g => by simp at g⟩
  case steps =>
    refine .cons (j := 1) rfl ?_ (.cons (j := 2) rfl ?_ (.cons (j := 3) rfl ?_ (.cons (j := 4) rfl ?_ (.cons (j := 5) rfl ?_ (.cons (j := 6) rfl ?_ (.cons (j := 7) rfl ?_ (.cons (j := 8) rfl ?_ (.cons (j := 9) rfl ?_ (.cons (j := 10) rfl ?_ (.cons (j := 11) rfl ?_ (.cons (j := 12) rfl ?_ (.cons (j := 13) rfl ?_ (.cons (j := 14) rfl ?_ (.cons (j := 15) rfl ?_ (.cons (j := 16) rfl ?_ (.cons (j := 17) rfl ?_ (.cons (j := 18) rfl ?_ (.cons (j := 19) rfl ?_ (.cons (j := 20) rfl ?_ (.cons (j := 21) rfl ?_ (.cons (j := 22) rfl ?_ (.cons (j := 23) rfl ?_ (.nil)))))))))))))))))))))))
    · rintro L t W ⟨hU, sB, cl, h0, h1, h2, h3, h4, h5, h6, h7, h8, h9, h10, h11, h12, h13, h14, h15, h16, h17, h18, h19, h20, h21, h22⟩ hi hd R hR
      have b0 : t 0 = .pointer (some ⟨b, 0, none⟩) := hU 0 (by decide)
      have HR := Lib.hid hR
      clear hR
      rw [mk27]
      go_wp2_with fail
      refine ⟨upd t 6 (.pointer (some ⟨b, 0, none⟩)), by rw [mk27]; simp [upd, b0], HR.out _ _ ⟨hU.upd 6 _ (by decide), sB, (by simpa using cl), fun _ => rfl, fun g => h1 (by simpa using g), fun g => h2 (by simpa using g), fun g => h3 (by simpa using g), fun g => h4 (by simpa using g), fun g => h5 (by simpa using g), fun g => h6 (by simpa using g), fun g => h7 (by simpa using g), fun g => h8 (by simpa using g), fun g => h9 (by simpa using g), fun g => h10 (by simpa using g), fun g => h11 (by simpa using g), fun g => h12 (by simpa using g), fun g => h13 (by simpa using g), fun g => h14 (by simpa using g), fun g => h15 (by simpa using g), fun g => h16 (by simpa using g), fun g => h17 (by simpa using g), fun g => h18 (by simpa using g), fun g => h19 (by simpa using g), fun g => h20 (by simpa using g), fun g => h21 (by simpa using g), fun g => h22 (by simpa using g)⟩⟩
    · rintro L t W ⟨hU, sB, cl, h0, h1, h2, h3, h4, h5, h6, h7, h8, h9, h10, h11, h12, h13, h14, h15, h16, h17, h18, h19, h20, h21, h22⟩ hi hd R hR
      have f0 := h0 (hd 0 (by kernel_rfl))
      have HR := Lib.hid hR
      clear hR
      rw [mk27]
      go_wp2_with fail
      refine ⟨upd t 7 (.pointer (some ⟨b, 0, none⟩)), by rw [mk27]; simp [upd, f0], HR.out _ _ ⟨hU.upd 7 _ (by decide), sB, (by simpa using cl), fun g => h0 (by simpa using g), fun _ => rfl, fun g => h2 (by simpa using g), fun g => h3 (by simpa using g), fun g => h4 (by simpa using g), fun g => h5 (by simpa using g), fun g => h6 (by simpa using g), fun g => h7 (by simpa using g), fun g => h8 (by simpa using g), fun g => h9 (by simpa using g), fun g => h10 (by simpa using g), fun g => h11 (by simpa using g), fun g => h12 (by simpa using g), fun g => h13 (by simpa using g), fun g => h14 (by simpa using g), fun g => h15 (by simpa using g), fun g => h16 (by simpa using g), fun g => h17 (by simpa using g), fun g => h18 (by simpa using g), fun g => h19 (by simpa using g), fun g => h20 (by simpa using g), fun g => h21 (by simpa using g), fun g => h22 (by simpa using g)⟩⟩
    · rintro L t W ⟨hU, sB, cl, h0, h1, h2, h3, h4, h5, h6, h7, h8, h9, h10, h11, h12, h13, h14, h15, h16, h17, h18, h19, h20, h21, h22⟩ hi hd R hR
      have f1 := h1 (hd 1 (by kernel_rfl))
      have HR := Lib.hid hR
      clear hR
      rw [mk27]
      go_wp2_with fail
      refine ⟨upd t 8 (.pointer (some ⟨b, 0, none⟩)), by rw [mk27]; simp [upd, f1], HR.out _ _ ⟨hU.upd 8 _ (by decide), sB, (by simpa using cl), fun g => h0 (by simpa using g), fun g => h1 (by simpa using g), fun _ => rfl, fun g => h3 (by simpa using g), fun g => h4 (by simpa using g), fun g => h5 (by simpa using g), fun g => h6 (by simpa using g), fun g => h7 (by simpa using g), fun g => h8 (by simpa using g), fun g => h9 (by simpa using g), fun g => h10 (by simpa using g), fun g => h11 (by simpa using g), fun g => h12 (by simpa using g), fun g => h13 (by simpa using g), fun g => h14 (by simpa using g), fun g => h15 (by simpa using g), fun g => h16 (by simpa using g), fun g => h17 (by simpa using g), fun g => h18 (by simpa using g), fun g => h19 (by simpa using g), fun g => h20 (by simpa using g), fun g => h21 (by simpa using g), fun g => h22 (by simpa using g)⟩⟩
    · rintro L t W ⟨hU, sB, cl, h0, h1, h2, h3, h4, h5, h6, h7, h8, h9, h10, h11, h12, h13, h14, h15, h16, h17, h18, h19, h20, h21, h22⟩ hi hd R hR
      have f2 := h2 (hd 2 (by kernel_rfl))
      have cq : W.cell? ⟨b, 0, none⟩ = some (.slice a len cap) := (sB.cell (p := ⟨b, 0, none⟩) hbl).trans q0
      have HR := Lib.hid hR
      clear hR
      rw [mk27]
      go_wp2_with fail
      refine ⟨upd t 9 (.agg #[.slice a len cap]), by rw [mk27]; simp [upd, f2], HR.out _ _ ⟨hU.upd 9 _ (by decide), sB, (by simpa using cl), fun g => h0 (by simpa using g), fun g => h1 (by simpa using g), fun g => h2 (by simpa using g), fun _ => rfl, fun g => h4 (by simpa using g), fun g => h5 (by simpa using g), fun g => h6 (by simpa using g), fun g => h7 (by simpa using g), fun g => h8 (by simpa using g), fun g => h9 (by simpa using g), fun g => h10 (by simpa using g), fun g => h11 (by simpa using g), fun g => h12 (by simpa using g), fun g => h13 (by simpa using g), fun g => h14 (by simpa using g), fun g => h15 (by simpa using g), fun g => h16 (by simpa using g), fun g => h17 (by simpa using g), fun g => h18 (by simpa using g), fun g => h19 (by simpa using g), fun g => h20 (by simpa using g), fun g => h21 (by simpa using g), fun g => h22 (by simpa using g)⟩⟩
    · rintro L t W ⟨hU, sB, cl, h0, h1, h2, h3, h4, h5, h6, h7, h8, h9, h10, h11, h12, h13, h14, h15, h16, h17, h18, h19, h20, h21, h22⟩ hi hd R hR
      have b0 : t 0 = .pointer (some ⟨b, 0, none⟩) := hU 0 (by decide)
      have HR := Lib.hid hR
      clear hR
      rw [mk27]
      go_wp2_with fail
      refine ⟨upd t 10 (.pointer (some ⟨b, 0, none⟩)), by rw [mk27]; simp [upd, b0], HR.out _ _ ⟨hU.upd 10 _ (by decide), sB, (by simpa using cl), fun g => h0 (by simpa using g), fun g => h1 (by simpa using g), fun g => h2 (by simpa using g), fun g => h3 (by simpa using g), fun _ => rfl, fun g => h5 (by simpa using g), fun g => h6 (by simpa using g), fun g => h7 (by simpa using g), fun g => h8 (by simpa using g), fun g => h9 (by simpa using g), fun g => h10 (by simpa using g), fun g => h11 (by simpa using g), fun g => h12 (by simpa using g), fun g => h13 (by simpa using g), fun g => h14 (by simpa using g), fun g => h15 (by simpa using g), fun g => h16 (by simpa using g), fun g => h17 (by simpa using g), fun g => h18 (by simpa using g), fun g => h19 (by simpa using g), fun g => h20 (by simpa using g), fun g => h21 (by simpa using g), fun g => h22 (by simpa using g)⟩⟩
    · rintro L t W ⟨hU, sB, cl, h0, h1, h2, h3, h4, h5, h6, h7, h8, h9, h10, h11, h12, h13, h14, h15, h16, h17, h18, h19, h20, h21, h22⟩ hi hd R hR
      have f4 := h4 (hd 4 (by kernel_rfl))
      have HR := Lib.hid hR
      clear hR
      rw [mk27]
      go_wp2_with fail
      refine ⟨upd t 11 (.pointer (some ⟨b, 0, none⟩)), by rw [mk27]; simp [upd, f4], HR.out _ _ ⟨hU.upd 11 _ (by decide), sB, (by simpa using cl), fun g => h0 (by simpa using g), fun g => h1 (by simpa using g), fun g => h2 (by simpa using g), fun g => h3 (by simpa using g), fun g => h4 (by simpa using g), fun _ => rfl, fun g => h6 (by simpa using g), fun g => h7 (by simpa using g), fun g => h8 (by simpa using g), fun g => h9 (by simpa using g), fun g => h10 (by simpa using g), fun g => h11 (by simpa using g), fun g => h12 (by simpa using g), fun g => h13 (by simpa using g), fun g => h14 (by simpa using g), fun g => h15 (by simpa using g), fun g => h16 (by simpa using g), fun g => h17 (by simpa using g), fun g => h18 (by simpa using g), fun g => h19 (by simpa using g), fun g => h20 (by simpa using g), fun g => h21 (by simpa using g), fun g => h22 (by simpa using g)⟩⟩
    · rintro L t W ⟨hU, sB, cl, h0, h1, h2, h3, h4, h5, h6, h7, h8, h9, h10, h11, h12, h13, h14, h15, h16, h17, h18, h19, h20, h21, h22⟩ hi hd R hR
      have f5 := h5 (hd 5 (by kernel_rfl))
      have HR := Lib.hid hR
      clear hR
      rw [mk27]
      go_wp2_with fail
      refine ⟨upd t 12 (.pointer (some ⟨b, 4, none⟩)), by rw [mk27]; simp [upd, f5], HR.out _ _ ⟨hU.upd 12 _ (by decide), sB, (by simpa using cl), fun g => h0 (by simpa using g), fun g => h1 (by simpa using g), fun g => h2 (by simpa using g), fun g => h3 (by simpa using g), fun g => h4 (by simpa using g), fun g => h5 (by simpa using g), fun _ => rfl, fun g => h7 (by simpa using g), fun g => h8 (by simpa using g), fun g => h9 (by simpa using g), fun g => h10 (by simpa using g), fun g => h11 (by simpa using g), fun g => h12 (by simpa using g), fun g => h13 (by simpa using g), fun g => h14 (by simpa using g), fun g => h15 (by simpa using g), fun g => h16 (by simpa using g), fun g => h17 (by simpa using g), fun g => h18 (by simpa using g), fun g => h19 (by simpa using g), fun g => h20 (by simpa using g), fun g => h21 (by simpa using g), fun g => h22 (by simpa using g)⟩⟩
    · rintro L t W ⟨hU, sB, cl, h0, h1, h2, h3, h4, h5, h6, h7, h8, h9, h10, h11, h12, h13, h14, h15, h16, h17, h18, h19, h20, h21, h22⟩ hi hd R hR
      have f6 := h6 (hd 6 (by kernel_rfl))
      have cq : W.cell? ⟨b, 4, none⟩ = some (.int .i64 i4) := (sB.cell (p := ⟨b, 4, none⟩) hbl).trans q4
      have cq5 : W.cell? ⟨b, 5, none⟩ = some (.int .i64 i5) := (sB.cell (p := ⟨b, 5, none⟩) hbl).trans q5
      have HR := Lib.hid hR
      clear hR
      rw [mk27]
      go_wp2_with fail
      refine ⟨upd t 13 (.agg #[.int .i64 i4, .int .i64 i5]), by rw [mk27]; simp [upd, f6], HR.out _ _ ⟨hU.upd 13 _ (by decide), sB, (by simpa using cl), fun g => h0 (by simpa using g), fun g => h1 (by simpa using g), fun g => h2 (by simpa using g), fun g => h3 (by simpa using g), fun g => h4 (by simpa using g), fun g => h5 (by simpa using g), fun g => h6 (by simpa using g), fun _ => rfl, fun g => h8 (by simpa using g), fun g => h9 (by simpa using g), fun g => h10 (by simpa using g), fun g => h11 (by simpa using g), fun g => h12 (by simpa using g), fun g => h13 (by simpa using g), fun g => h14 (by simpa using g), fun g => h15 (by simpa using g), fun g => h16 (by simpa using g), fun g => h17 (by simpa using g), fun g => h18 (by simpa using g), fun g => h19 (by simpa using g), fun g => h20 (by simpa using g), fun g => h21 (by simpa using g), fun g => h22 (by simpa using g)⟩⟩
    · rintro L t W ⟨hU, sB, cl, h0, h1, h2, h3, h4, h5, h6, h7, h8, h9, h10, h11, h12, h13, h14, h15, h16, h17, h18, h19, h20, h21, h22⟩ hi hd R hR
      have b0 : t 0 = .pointer (some ⟨b, 0, none⟩) := hU 0 (by decide)
      have HR := Lib.hid hR
      clear hR
      rw [mk27]
      go_wp2_with fail
      refine ⟨upd t 14 (.pointer (some ⟨b, 0, none⟩)), by rw [mk27]; simp [upd, b0], HR.out _ _ ⟨hU.upd 14 _ (by decide), sB, (by simpa using cl), fun g => h0 (by simpa using g), fun g => h1 (by simpa using g), fun g => h2 (by simpa using g), fun g => h3 (by simpa using g), fun g => h4 (by simpa using g), fun g => h5 (by simpa using g), fun g => h6 (by simpa using g), fun g => h7 (by simpa using g), fun _ => rfl, fun g => h9 (by simpa using g), fun g => h10 (by simpa using g), fun g => h11 (by simpa using g), fun g => h12 (by simpa using g), fun g => h13 (by simpa using g), fun g => h14 (by simpa using g), fun g => h15 (by simpa using g), fun g => h16 (by simpa using g), fun g => h17 (by simpa using g), fun g => h18 (by simpa using g), fun g => h19 (by simpa using g), fun g => h20 (by simpa using g), fun g => h21 (by simpa using g), fun g => h22 (by simpa using g)⟩⟩
    · rintro L t W ⟨hU, sB, cl, h0, h1, h2, h3, h4, h5, h6, h7, h8, h9, h10, h11, h12, h13, h14, h15, h16, h17, h18, h19, h20, h21, h22⟩ hi hd R hR
      have f8 := h8 (hd 8 (by kernel_rfl))
      have HR := Lib.hid hR
      clear hR
      rw [mk27]
      go_wp2_with fail
      refine ⟨upd t 15 (.pointer (some ⟨b, 0, none⟩)), by rw [mk27]; simp [upd, f8], HR.out _ _ ⟨hU.upd 15 _ (by decide), sB, (by simpa using cl), fun g => h0 (by simpa using g), fun g => h1 (by simpa using g), fun g => h2 (by simpa using g), fun g => h3 (by simpa using g), fun g => h4 (by simpa using g), fun g => h5 (by simpa using g), fun g => h6 (by simpa using g), fun g => h7 (by simpa using g), fun g => h8 (by simpa using g), fun _ => rfl, fun g => h10 (by simpa using g), fun g => h11 (by simpa using g), fun g => h12 (by simpa using g), fun g => h13 (by simpa using g), fun g => h14 (by simpa using g), fun g => h15 (by simpa using g), fun g => h16 (by simpa using g), fun g => h17 (by simpa using g), fun g => h18 (by simpa using g), fun g => h19 (by simpa using g), fun g => h20 (by simpa using g), fun g => h21 (by simpa using g), fun g => h22 (by simpa using g)⟩⟩
    · rintro L t W ⟨hU, sB, cl, h0, h1, h2, h3, h4, h5, h6, h7, h8, h9, h10, h11, h12, h13, h14, h15, h16, h17, h18, h19, h20, h21, h22⟩ hi hd R hR
      have f9 := h9 (hd 9 (by kernel_rfl))
      have HR := Lib.hid hR
      clear hR
      rw [mk27]
      go_wp2_with fail
      refine ⟨upd t 16 (.pointer (some ⟨b, 2, none⟩)), by rw [mk27]; simp [upd, f9], HR.out _ _ ⟨hU.upd 16 _ (by decide), sB, (by simpa using cl), fun g => h0 (by simpa using g), fun g => h1 (by simpa using g), fun g => h2 (by simpa using g), fun g => h3 (by simpa using g), fun g => h4 (by simpa using g), fun g => h5 (by simpa using g), fun g => h6 (by simpa using g), fun g => h7 (by simpa using g), fun g => h8 (by simpa using g), fun g => h9 (by simpa using g), fun _ => rfl, fun g => h11 (by simpa using g), fun g => h12 (by simpa using g), fun g => h13 (by simpa using g), fun g => h14 (by simpa using g), fun g => h15 (by simpa using g), fun g => h16 (by simpa using g), fun g => h17 (by simpa using g), fun g => h18 (by simpa using g), fun g => h19 (by simpa using g), fun g => h20 (by simpa using g), fun g => h21 (by simpa using g), fun g => h22 (by simpa using g)⟩⟩
    · rintro L t W ⟨hU, sB, cl, h0, h1, h2, h3, h4, h5, h6, h7, h8, h9, h10, h11, h12, h13, h14, h15, h16, h17, h18, h19, h20, h21, h22⟩ hi hd R hR
      have f10 := h10 (hd 10 (by kernel_rfl))
      have cq : W.cell? ⟨b, 2, none⟩ = some (.bool b2) := (sB.cell (p := ⟨b, 2, none⟩) hbl).trans q2
      have HR := Lib.hid hR
      clear hR
      rw [mk27]
      go_wp2_with fail
      refine ⟨upd t 17 (.bool b2), by rw [mk27]; simp [upd, f10], HR.out _ _ ⟨hU.upd 17 _ (by decide), sB, (by simpa using cl), fun g => h0 (by simpa using g), fun g => h1 (by simpa using g), fun g => h2 (by simpa using g), fun g => h3 (by simpa using g), fun g => h4 (by simpa using g), fun g => h5 (by simpa using g), fun g => h6 (by simpa using g), fun g => h7 (by simpa using g), fun g => h8 (by simpa using g), fun g => h9 (by simpa using g), fun g => h10 (by simpa using g), fun _ => rfl, fun g => h12 (by simpa using g), fun g => h13 (by simpa using g), fun g => h14 (by simpa using g), fun g => h15 (by simpa using g), fun g => h16 (by simpa using g), fun g => h17 (by simpa using g), fun g => h18 (by simpa using g), fun g => h19 (by simpa using g), fun g => h20 (by simpa using g), fun g => h21 (by simpa using g), fun g => h22 (by simpa using g)⟩⟩
    · rintro L t W ⟨hU, sB, cl, h0, h1, h2, h3, h4, h5, h6, h7, h8, h9, h10, h11, h12, h13, h14, h15, h16, h17, h18, h19, h20, h21, h22⟩ hi hd R hR
      have b0 : t 0 = .pointer (some ⟨b, 0, none⟩) := hU 0 (by decide)
      have HR := Lib.hid hR
      clear hR
      rw [mk27]
      go_wp2_with fail
      refine ⟨upd t 18 (.pointer (some ⟨b, 0, none⟩)), by rw [mk27]; simp [upd, b0], HR.out _ _ ⟨hU.upd 18 _ (by decide), sB, (by simpa using cl), fun g => h0 (by simpa using g), fun g => h1 (by simpa using g), fun g => h2 (by simpa using g), fun g => h3 (by simpa using g), fun g => h4 (by simpa using g), fun g => h5 (by simpa using g), fun g => h6 (by simpa using g), fun g => h7 (by simpa using g), fun g => h8 (by simpa using g), fun g => h9 (by simpa using g), fun g => h10 (by simpa using g), fun g => h11 (by simpa using g), fun _ => rfl, fun g => h13 (by simpa using g), fun g => h14 (by simpa using g), fun g => h15 (by simpa using g), fun g => h16 (by simpa using g), fun g => h17 (by simpa using g), fun g => h18 (by simpa using g), fun g => h19 (by simpa using g), fun g => h20 (by simpa using g), fun g => h21 (by simpa using g), fun g => h22 (by simpa using g)⟩⟩
    · rintro L t W ⟨hU, sB, cl, h0, h1, h2, h3, h4, h5, h6, h7, h8, h9, h10, h11, h12, h13, h14, h15, h16, h17, h18, h19, h20, h21, h22⟩ hi hd R hR
      have f12 := h12 (hd 12 (by kernel_rfl))
      have HR := Lib.hid hR
      clear hR
      rw [mk27]
      go_wp2_with fail
      refine ⟨upd t 19 (.pointer (some ⟨b, 0, none⟩)), by rw [mk27]; simp [upd, f12], HR.out _ _ ⟨hU.upd 19 _ (by decide), sB, (by simpa using cl), fun g => h0 (by simpa using g), fun g => h1 (by simpa using g), fun g => h2 (by simpa using g), fun g => h3 (by simpa using g), fun g => h4 (by simpa using g), fun g => h5 (by simpa using g), fun g => h6 (by simpa using g), fun g => h7 (by simpa using g), fun g => h8 (by simpa using g), fun g => h9 (by simpa using g), fun g => h10 (by simpa using g), fun g => h11 (by simpa using g), fun g => h12 (by simpa using g), fun _ => rfl, fun g => h14 (by simpa using g), fun g => h15 (by simpa using g), fun g => h16 (by simpa using g), fun g => h17 (by simpa using g), fun g => h18 (by simpa using g), fun g => h19 (by simpa using g), fun g => h20 (by simpa using g), fun g => h21 (by simpa using g), fun g => h22 (by simpa using g)⟩⟩
    · rintro L t W ⟨hU, sB, cl, h0, h1, h2, h3, h4, h5, h6, h7, h8, h9, h10, h11, h12, h13, h14, h15, h16, h17, h18, h19, h20, h21, h22⟩ hi hd R hR
      have f13 := h13 (hd 13 (by kernel_rfl))
      have HR := Lib.hid hR
      clear hR
      rw [mk27]
      go_wp2_with fail
      refine ⟨upd t 20 (.pointer (some ⟨b, 3, none⟩)), by rw [mk27]; simp [upd, f13], HR.out _ _ ⟨hU.upd 20 _ (by decide), sB, (by simpa using cl), fun g => h0 (by simpa using g), fun g => h1 (by simpa using g), fun g => h2 (by simpa using g), fun g => h3 (by simpa using g), fun g => h4 (by simpa using g), fun g => h5 (by simpa using g), fun g => h6 (by simpa using g), fun g => h7 (by simpa using g), fun g => h8 (by simpa using g), fun g => h9 (by simpa using g), fun g => h10 (by simpa using g), fun g => h11 (by simpa using g), fun g => h12 (by simpa using g), fun g => h13 (by simpa using g), fun _ => rfl, fun g => h15 (by simpa using g), fun g => h16 (by simpa using g), fun g => h17 (by simpa using g), fun g => h18 (by simpa using g), fun g => h19 (by simpa using g), fun g => h20 (by simpa using g), fun g => h21 (by simpa using g), fun g => h22 (by simpa using g)⟩⟩
    · rintro L t W ⟨hU, sB, cl, h0, h1, h2, h3, h4, h5, h6, h7, h8, h9, h10, h11, h12, h13, h14, h15, h16, h17, h18, h19, h20, h21, h22⟩ hi hd R hR
      have f14 := h14 (hd 14 (by kernel_rfl))
      have cq : W.cell? ⟨b, 3, none⟩ = some (.slice ai li ci) := (sB.cell (p := ⟨b, 3, none⟩) hbl).trans q3
      have HR := Lib.hid hR
      clear hR
      rw [mk27]
      go_wp2_with fail
      refine ⟨upd t 21 (.slice ai li ci), by rw [mk27]; simp [upd, f14], HR.out _ _ ⟨hU.upd 21 _ (by decide), sB, (by simpa using cl), fun g => h0 (by simpa using g), fun g => h1 (by simpa using g), fun g => h2 (by simpa using g), fun g => h3 (by simpa using g), fun g => h4 (by simpa using g), fun g => h5 (by simpa using g), fun g => h6 (by simpa using g), fun g => h7 (by simpa using g), fun g => h8 (by simpa using g), fun g => h9 (by simpa using g), fun g => h10 (by simpa using g), fun g => h11 (by simpa using g), fun g => h12 (by simpa using g), fun g => h13 (by simpa using g), fun g => h14 (by simpa using g), fun _ => rfl, fun g => h16 (by simpa using g), fun g => h17 (by simpa using g), fun g => h18 (by simpa using g), fun g => h19 (by simpa using g), fun g => h20 (by simpa using g), fun g => h21 (by simpa using g), fun g => h22 (by simpa using g)⟩⟩
    · rintro L t W ⟨hU, sB, cl, h0, h1, h2, h3, h4, h5, h6, h7, h8, h9, h10, h11, h12, h13, h14, h15, h16, h17, h18, h19, h20, h21, h22⟩ hi hd R hR
      have f3 := h3 (hd 3 (by kernel_rfl))
      have f7 := h7 (hd 7 (by kernel_rfl))
      have f11 := h11 (hd 11 (by kernel_rfl))
      have f15 := h15 (hd 15 (by kernel_rfl))
      have HR := Lib.hid hR
      clear hR
      rw [mk27]
      go_wp2_with fail
      refine (HC.out W.heap.size W (Nat.le_refl _) sB).mono ?_
      rintro e W2 ⟨a1, l1, c1, n, rfl, ⟨len1, cap1, rows1, m1, m2, m3⟩, hb, hbW⟩
      dsimp only
      go_wp2_with fail
      refine ⟨upd t 22 (.tuple #[.slice a1 l1 c1, .int .i64 n]), by rw [mk27]; simp [upd, f3, f7, f11, f15], HR.out _ _ ⟨hU.upd 22 _ (by decide), hbW, (by simp; exact cl.2.2.2.2), fun g => h0 (by simpa using g), fun g => h1 (by simpa using g), fun g => h2 (by simpa using g), fun g => h3 (by simpa using g), fun g => h4 (by simpa using g), fun g => h5 (by simpa using g), fun g => h6 (by simpa using g), fun g => h7 (by simpa using g), fun g => h8 (by simpa using g), fun g => h9 (by simpa using g), fun g => h10 (by simpa using g), fun g => h11 (by simpa using g), fun g => h12 (by simpa using g), fun g => h13 (by simpa using g), fun g => h14 (by simpa using g), fun g => h15 (by simpa using g), fun _ => ⟨a1, l1, c1, n, rfl, len1, cap1, rows1, Rd.mono (fun k hk => ⟨⟨(Nw.lower sB.size k hk).1, (fun hL e => by obtain ⟨p, x, e1, _, e3⟩ := h20 (by simpa using hL); have e4 : t 3 = _ := e; rw [e1] at e4; injection e4 with e4; injection e4 with e4; injection e4 with e4; have := (Array.getElem?_eq_some_iff.1 e3).1; have := hk.1; omega)⟩, rfl⟩) _ _ m1, m2, m3⟩, fun g => absurd (cl.1 (by simpa using g)) (by simp [hi]), fun g => absurd (cl.2.1 (by simpa using g)) (by simp [hi]), fun g => absurd (cl.2.2.1 (by simpa using g)) (by simp [hi]), fun g => (by obtain ⟨p, x, e1, e2, e3⟩ := (h20 (by simpa using g)); exact ⟨p, x, e1, e2, (hb.block _ (Array.getElem?_eq_some_iff.1 e3).1).trans e3⟩), fun g => absurd (cl.2.2.2.1 (by simpa using g)) (by simp [hi]), fun g => h22 (by simpa using g)⟩⟩
    · rintro L t W ⟨hU, sB, cl, h0, h1, h2, h3, h4, h5, h6, h7, h8, h9, h10, h11, h12, h13, h14, h15, h16, h17, h18, h19, h20, h21, h22⟩ hi hd R hR
      have f16 := h16 (hd 16 (by kernel_rfl))
      obtain ⟨a1, l1, c1, n, e1, _⟩ := f16
      have q16 : L 16 = true := hd 16 (by kernel_rfl)
      have HR := Lib.hid hR
      clear hR
      rw [mk27]
      go_wp2_with fail
      refine ⟨upd t 5 (.tuple #[.slice a1 l1 c1, .int .i64 n]), by rw [mk27]; simp [upd, e1], HR.out _ _ ⟨hU.upd 5 _ (by decide), sB, (by simp [q16]; exact cl.2.2.2.2), fun g => h0 (by simpa using g), fun g => h1 (by simpa using g), fun g => h2 (by simpa using g), fun g => h3 (by simpa using g), fun g => h4 (by simpa using g), fun g => h5 (by simpa using g), fun g => h6 (by simpa using g), fun g => h7 (by simpa using g), fun g => h8 (by simpa using g), fun g => h9 (by simpa using g), fun g => h10 (by simpa using g), fun g => h11 (by simpa using g), fun g => h12 (by simpa using g), fun g => h13 (by simpa using g), fun g => h14 (by simpa using g), fun g => h15 (by simpa using g), fun g => h16 (by simpa using g), fun _ => ⟨a1, l1, c1, n, e1, rfl⟩, fun g => h18 (by simpa using g), fun g => h19 (by simpa using g), fun g => h20 (by simpa using g), fun g => h21 (by simpa using g), fun g => h22 (by simpa using g)⟩⟩
    · rintro L t W ⟨hU, sB, cl, h0, h1, h2, h3, h4, h5, h6, h7, h8, h9, h10, h11, h12, h13, h14, h15, h16, h17, h18, h19, h20, h21, h22⟩ hi hd R hR
      have f17 := h17 (hd 17 (by kernel_rfl))
      obtain ⟨a1, l1, c1, n, e1, e2⟩ := f17
      have q16 : L 16 = true := cl.1 (hd 17 (by kernel_rfl))
      have HR := Lib.hid hR
      clear hR
      rw [mk27]
      go_wp2_with fail
      refine ⟨upd t 23 (.slice a1 l1 c1), by rw [mk27]; simp [upd, e2, e1], HR.out _ _ ⟨hU.upd 23 _ (by decide), sB, (by simp [q16]; exact cl.2.2.2.2), fun g => h0 (by simpa using g), fun g => h1 (by simpa using g), fun g => h2 (by simpa using g), fun g => h3 (by simpa using g), fun g => h4 (by simpa using g), fun g => h5 (by simpa using g), fun g => h6 (by simpa using g), fun g => h7 (by simpa using g), fun g => h8 (by simpa using g), fun g => h9 (by simpa using g), fun g => h10 (by simpa using g), fun g => h11 (by simpa using g), fun g => h12 (by simpa using g), fun g => h13 (by simpa using g), fun g => h14 (by simpa using g), fun g => h15 (by simpa using g), fun g => h16 (by simpa using g), fun g => h17 (by simpa using g), fun _ => ⟨a1, l1, c1, n, e1, rfl⟩, fun g => h19 (by simpa using g), fun g => h20 (by simpa using g), fun g => h21 (by simpa using g), fun g => h22 (by simpa using g)⟩⟩
    · rintro L t W ⟨hU, sB, cl, h0, h1, h2, h3, h4, h5, h6, h7, h8, h9, h10, h11, h12, h13, h14, h15, h16, h17, h18, h19, h20, h21, h22⟩ hi hd R hR
      have f17 := h17 (hd 17 (by kernel_rfl))
      obtain ⟨a1, l1, c1, n, e1, e2⟩ := f17
      have q16 : L 16 = true := cl.1 (hd 17 (by kernel_rfl))
      have HR := Lib.hid hR
      clear hR
      rw [mk27]
      go_wp2_with fail
      refine ⟨upd t 24 (.int .i64 n), by rw [mk27]; simp [upd, e2, e1], HR.out _ _ ⟨hU.upd 24 _ (by decide), sB, (by simp [q16]; exact cl.2.2.2.2), fun g => h0 (by simpa using g), fun g => h1 (by simpa using g), fun g => h2 (by simpa using g), fun g => h3 (by simpa using g), fun g => h4 (by simpa using g), fun g => h5 (by simpa using g), fun g => h6 (by simpa using g), fun g => h7 (by simpa using g), fun g => h8 (by simpa using g), fun g => h9 (by simpa using g), fun g => h10 (by simpa using g), fun g => h11 (by simpa using g), fun g => h12 (by simpa using g), fun g => h13 (by simpa using g), fun g => h14 (by simpa using g), fun g => h15 (by simpa using g), fun g => h16 (by simpa using g), fun g => h17 (by simpa using g), fun g => h18 (by simpa using g), fun _ => ⟨a1, l1, c1, n, e1, rfl⟩, fun g => h20 (by simpa using g), fun g => h21 (by simpa using g), fun g => h22 (by simpa using g)⟩⟩
    · rintro L t W ⟨hU, sB, cl, h0, h1, h2, h3, h4, h5, h6, h7, h8, h9, h10, h11, h12, h13, h14, h15, h16, h17, h18, h19, h20, h21, h22⟩ hi hd R hR
      have hb : Below W.heap.size W (W.alloc (Obj.cells #[.slice none 0 0] 45)) := (Below.refl _ _).alloc (Nat.le_refl _) _
      have HR := Lib.hid hR
      clear hR
      rw [mk27]
      go_wp2_with fail
      refine ⟨upd t 3 (.pointer (some ⟨W.heap.size, 0, none⟩)), by rw [mk27]; simp [upd], HR.out _ _ ⟨hU.upd 3 _ (by decide), sB.alloc sB.size _, (by simp; exact ⟨cl.1, cl.2.1, cl.2.2.1, cl.2.2.2.1⟩), fun g => h0 (by simpa using g), fun g => h1 (by simpa using g), fun g => h2 (by simpa using g), fun g => h3 (by simpa using g), fun g => h4 (by simpa using g), fun g => h5 (by simpa using g), fun g => h6 (by simpa using g), fun g => h7 (by simpa using g), fun g => h8 (by simpa using g), fun g => h9 (by simpa using g), fun g => h10 (by simpa using g), fun g => h11 (by simpa using g), fun g => h12 (by simpa using g), fun g => h13 (by simpa using g), fun g => h14 (by simpa using g), fun g => h15 (by simpa using g), fun g => (by obtain ⟨a1, l1, c1, n, e1, len1, cap1, rows1, m1, m2, m3⟩ := (h16 (by simpa using g)); exact ⟨a1, l1, c1, n, e1, len1, cap1, rows1, Rd.mono (fun k hk => ⟨⟨(nw_below hb hk.1).1, (fun _ e => by have e4 : Value.pointer (some ⟨W.heap.size, 0, none⟩) = .pointer (some ⟨k, 0, none⟩) := e; injection e4 with e4; injection e4 with e4; injection e4 with e4; have := hk.1.2.1; omega)⟩, (nw_below hb hk.1).2⟩) _ _ m1, m2, m3⟩), fun g => h17 (by simpa using g), fun g => h18 (by simpa using g), fun g => h19 (by simpa using g), fun _ => ⟨W.heap.size, _, rfl, sB.size, heap_alloc_new _ _⟩, fun g => absurd (cl.2.2.2.2 (by simpa using g)) (by simp [hi]), fun g => h22 (by simpa using g)⟩⟩
    · rintro L t W ⟨hU, sB, cl, h0, h1, h2, h3, h4, h5, h6, h7, h8, h9, h10, h11, h12, h13, h14, h15, h16, h17, h18, h19, h20, h21, h22⟩ hi hd R hR
      have f18 := h18 (hd 18 (by kernel_rfl))
      have f20 := h20 (hd 20 (by kernel_rfl))
      obtain ⟨a1, l1, c1, n, e1, e2⟩ := f18
      obtain ⟨p, x, y1, y2, y3⟩ := f20
      have q16 : L 16 = true := cl.2.1 (hd 18 (by kernel_rfl))
      have q20 : L 20 = true := hd 20 (by kernel_rfl)
      have cp : W.cell? ⟨p, 0, none⟩ = some x := cell_of_row _ _ 0 _ _ _ y3
      have fp : W.frozen? ⟨p, 0, none⟩ = false := by simp [World.frozen?, y3]
      have HR := Lib.hid hR
      clear hR
      rw [mk27]
      go_wp2_with fail
      refine ⟨t, by rw [mk27]; simp [y1, e2, e1], HR.out _ _ ⟨hU, sB.setCell (p := ⟨p, 0, none⟩) y2 _, (by simp [q16, q20]), fun g => h0 (by simpa using g), fun g => h1 (by simpa using g), fun g => h2 (by simpa using g), fun g => h3 (by simpa using g), fun g => h4 (by simpa using g), fun g => h5 (by simpa using g), fun g => h6 (by simpa using g), fun g => h7 (by simpa using g), fun g => h8 (by simpa using g), fun g => h9 (by simpa using g), fun g => h10 (by simpa using g), fun g => h11 (by simpa using g), fun g => h12 (by simpa using g), fun g => h13 (by simpa using g), fun g => h14 (by simpa using g), fun g => h15 (by simpa using g), fun g => (by obtain ⟨a2, l2, c2, n2, e3, len1, cap1, rows1, m1, m2, m3⟩ := (h16 (by simpa using g)); exact ⟨a2, l2, c2, n2, e3, len1, cap1, rows1, Rd.mono (fun k hk => by have hkp : k ≠ p := fun e => hk.2 q20 (by rw [y1, e]); have h9 := Below.heap_setCell W ⟨p, 0, none⟩ (.slice a1 l1 c1) k hkp; obtain ⟨⟨k1, k2, cc, ee, k3⟩, k4⟩ := hk; exact ⟨⟨⟨k1, by rw [setCell_size]; exact k2, cc, ee, h9.trans k3⟩, fun _ => k4 q20⟩, h9⟩) _ _ m1, m2, m3⟩), fun g => h17 (by simpa using g), fun g => h18 (by simpa using g), fun g => h19 (by simpa using g), fun g => ⟨p, _, y1, y2, setCell_one y3⟩, fun _ => ⟨p, a1, l1, c1, n, y1, e1, setCell_one y3⟩, fun g => h22 (by simpa using g)⟩⟩
    · rintro L t W ⟨hU, sB, cl, h0, h1, h2, h3, h4, h5, h6, h7, h8, h9, h10, h11, h12, h13, h14, h15, h16, h17, h18, h19, h20, h21, h22⟩ hi hd R hR
      have f19 := h19 (hd 19 (by kernel_rfl))
      obtain ⟨a1, l1, c1, n, e1, e2⟩ := f19
      have HR := Lib.hid hR
      clear hR
      rw [mk27]
      go_wp2_with fail
      refine ⟨upd t 4 (.int .i64 n), by rw [mk27]; simp [upd, e2, e1], HR.out _ _ ⟨hU.upd 4 _ (by decide), sB, (by simpa using cl), fun g => h0 (by simpa using g), fun g => h1 (by simpa using g), fun g => h2 (by simpa using g), fun g => h3 (by simpa using g), fun g => h4 (by simpa using g), fun g => h5 (by simpa using g), fun g => h6 (by simpa using g), fun g => h7 (by simpa using g), fun g => h8 (by simpa using g), fun g => h9 (by simpa using g), fun g => h10 (by simpa using g), fun g => h11 (by simpa using g), fun g => h12 (by simpa using g), fun g => h13 (by simpa using g), fun g => h14 (by simpa using g), fun g => h15 (by simpa using g), fun g => h16 (by simpa using g), fun g => h17 (by simpa using g), fun g => h18 (by simpa using g), fun g => h19 (by simpa using g), fun g => h20 (by simpa using g), fun g => h21 (by simpa using g), fun _ => ⟨n, rfl⟩⟩⟩
  case last =>
    rintro L t W hU ⟨sB, cl, h0, h1, h2, h3, h4, h5, h6, h7, h8, h9, h10, h11, h12, h13, h14, h15, h16, h17, h18, h19, h20, h21, h22⟩ hall
    obtain ⟨a1, l1, c1, n, e1, len1, cap1, rows1, m1, m2, m3⟩ := h16 (hall 16 (by decide))
    obtain ⟨p, x, y1, y2, _⟩ := h20 (hall 20 (by decide))
    obtain ⟨p', a2, l2, c2, n2, z1, z2, z3⟩ := h21 (hall 21 (by decide))
    have ep : p' = p := by rw [y1] at z1; injection z1 with z1; injection z1 with z1; injection z1 with z1; exact z1.symm
    subst ep
    rw [e1] at z2
    simp only [Value.tuple.injEq, Array.mk.injEq, List.cons.injEq, Value.slice.injEq, Value.int.injEq, and_true, true_and] at z2
    obtain ⟨⟨rfl, rfl, rfl⟩, rfl⟩ := z2
    obtain ⟨outs, hg⟩ := gave_cell (T := 45) (E := 41) (n := limO) (B := w.heap.size) (see_f29 limO) (fun _ _ => rfl) y2 z3 (c := .sl 1 len1 cap1 rows1) (t := .sl 4)
      (Rd.mono (fun k hk => ⟨hk.1, rfl⟩) _ _ m1) (by simp only [Ht]; exact ⟨4, rfl, rfl, m2⟩) (by simp only [nodes, limO]; omega) (by simp only [nodes, limO]; omega)
    have hB := sB.alloc sB.size (Obj.cells #[Value.func (.func 29) #[] #[.pointer (some ⟨p', 0, none⟩)]] 41)
    have HG := Lib.hid (And.intro hg hB)
    have b0 := hU 0 (by decide)
    have b1 := hU 1 (by decide)
    have b2 := hU 2 (by decide)
    have b25 := hU 25 (by decide)
    have b26 := hU 26 (by decide)
    simp at b0 b1 b2 b25 b26
    clear hg hB m1 m2 m3 z3 h0 h1 h2 h3 h4 h5 h6 h7 h8 h9 h10 h11 h12 h13 h14 h15 h16 h17 h18 h19 h20 h21 h22
    rw [mk27]
    simp only [b0, b1, b2, b25, b26, y1]
    go_wp2_with fail
    go_ret
    exact ⟨_, outs, rfl, HG.out.1, HG.out.2⟩
end Go.Proofs.YtgkamgijnhbcbaaGreatDoor
