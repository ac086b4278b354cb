/- Five of the six calls of the law fulfil its contract. -/
import Derived.Test.YtaibjehembkolaaGreatDoorNew
import Derived.WalkKit
import Derived.WalkSpells
import Derived.WalkLawsBesides
import Derived.StillTailTactics
import Derived.Test.YtaibjehembkolaaGreatDoorSeeAny
namespace Go.Proofs.YtaibjehembkolaaGreatDoor
open Go.RowKit Go.Vt Go.Proofs
theorem ht66 {rows : List (List C)} (h : HtRows tab (tab 66) rows) : HtRows tab [.str, .sl 73, .int .i64, .sl 3] rows := h
/-- y's cells. -/
theorem y_at {F : Nat → Prop} {w : World} {b : Nat} {cs : List C} (ht : HtRow tab [.str, .sl 66, .int .i64, .int .i64] cs) (h : RdRow F w b 0 cs) :
    ∃ tag a len cap rows i j, cs = [.str tag, .sl 4 len cap rows, .int .i64 i, .int .i64 j] ∧ tag.size ≤ strMax ∧ Rd F w (.sl 4 len cap rows) (.slice a len cap) ∧ HtRows tab [.str, .sl 73, .int .i64, .sl 3] rows ∧
      w.cell? ⟨b, 0, none⟩ = some (.string tag) ∧ w.cell? ⟨b, 1, none⟩ = some (.slice a len cap) ∧ w.cell? ⟨b, 2, none⟩ = some (.int .i64 i) ∧ w.cell? ⟨b, 3, none⟩ = some (.int .i64 j) := by
  obtain ⟨c0, cs0, rfl, k0, h1⟩ := ht.cons
  obtain ⟨c1, cs1, rfl, k1, h2⟩ := h1.cons
  obtain ⟨c2, cs2, rfl, k2, h3⟩ := h2.cons
  obtain ⟨c3, cs3, rfl, k3, h4⟩ := h3.cons
  obtain rfl := h4.nil
  obtain ⟨tag, rfl⟩ := ht_str k0
  obtain ⟨len, cap, rows, rfl, g1⟩ := ht_slE k1
  obtain ⟨i, rfl⟩ := ht_int k2
  obtain ⟨j, rfl⟩ := ht_int k3
  simp only [RdRow, and_true] at h
  obtain ⟨⟨v0, q0, r0⟩, ⟨v1, q1, r1⟩, ⟨v2, q2, r2⟩, ⟨v3, q3, r3⟩⟩ := h
  have r1' := r1
  simp only [Rd] at r0 r1 r2 r3
  obtain ⟨a, rfl, _⟩ := r1
  subst r0 r2 r3
  simp only [Ht] at k0
  exact ⟨tag, a, len, cap, rows, i, j, rfl, k0.2, r1', g1, q0, q1, q2, q3⟩
theorem gave_nil {n M0 : Nat} {W : World} : Gave Tryz.prog 3 9 tab n M0 W (.slice none 0 0) [] :=
  ⟨by simp, by simp, by simp, ⟨none, 0, 0, rfl, by simp, by simp, by simp⟩⟩
set_option maxRecDepth 100000 in
theorem call_check (n : Nat) : CallOK Tryz.prog 3 9 tab n 11 [.str, .sl 66, .int .i64, .int .i64] := by
  intro F W b cs hn ht hr hb hF
  obtain ⟨tag, a, len, cap, rows, i, j, rfl, _, h1, h2, q0, q1, q2, q3⟩ := y_at ht hr
  have hnn : nodesRows rows ≤ 1099511627776 := by
    simp only [nodesRow, nodes, limY] at hn; omega
  have hc := check_ok F W (.slice a len cap) len cap rows h1 h2 hF hnn
  have HC := Lib.hid hc
  clear hc h1 h2 hr ht hn
  go_enter Tryz.func11, Tryz.ntmps11
  go_wp2_with fail
  refine HC.out.mono ?_
  rintro e w1 ⟨⟨m, rfl, _⟩, hb1⟩
  go_wp2_with fail
  go_ret
  exact ⟨_, [], rfl, gave_nil, hb1⟩
end Go.Proofs.YtaibjehembkolaaGreatDoor
namespace Go.Proofs.YtaibjehembkolaaGreatDoor
open Go.RowKit Go.Vt Go.Proofs
set_option maxRecDepth 100000 in
theorem call_top (n : Nat) : CallOK Tryz.prog 3 9 tab n 16 [.str, .sl 66, .int .i64, .int .i64] := by
  intro F W b cs hn ht hr hb hF
  obtain ⟨tag, a, len, cap, rows, i, j, rfl, _, h1, h2, q0, q1, q2, q3⟩ := y_at ht hr
  have hnn : nodesRows rows ≤ 1099511627776 := by
    simp only [nodesRow, nodes, limY] at hn; omega
  have hc := top_ok F W.drew (.slice a len cap) i len cap rows (Rd.mono (w := W) (w' := W.drew) (fun k hk => ⟨hk, rfl⟩) _ _ h1) h2 hF hnn
  have HC := Lib.hid hc
  clear hc h1 h2 hr ht hn
  go_enter Tryz.func16, Tryz.ntmps16
  go_wp2_with fail
  go_still_tail 8, (by kernel_rfl)
  change wpList _ _ _ _ _ W.drew
  go_wp2_with fail
  refine HC.out.mono ?_
  rintro e w1 ⟨⟨m, m', rfl⟩, hb1⟩
  go_wp2_with fail
  go_ret
  exact ⟨_, [], rfl, gave_nil, ⟨hb1.os, hb1.tape, hb1.output, hb1.size, hb1.block⟩⟩
set_option maxRecDepth 100000 in
theorem call_depth (n : Nat) : CallOK Tryz.prog 3 9 tab n 20 [.str, .sl 66, .int .i64, .int .i64] := by
  intro F W b cs hn ht hr hb hF
  obtain ⟨tag, a, len, cap, rows, i, j, rfl, _, h1, h2, q0, q1, q2, q3⟩ := y_at ht hr
  have hnn : nodesRows rows ≤ 1099511627776 := by
    simp only [nodesRow, nodes, limY] at hn; omega
  have hc := depth_ok F W.drew (.slice a len cap) i len cap rows (Rd.mono (w := W) (w' := W.drew) (fun k hk => ⟨hk, rfl⟩) _ _ h1) h2 hF hnn
  have HC := Lib.hid hc
  clear hc h1 h2 hr ht hn
  go_enter Tryz.func20, Tryz.ntmps20
  go_wp2_with fail
  go_still_tail 8, (by kernel_rfl)
  change wpList _ _ _ _ _ W.drew
  go_wp2_with fail
  refine HC.out.mono ?_
  rintro e w1 ⟨⟨m, m', rfl⟩, hb1⟩
  go_wp2_with fail
  go_ret
  exact ⟨_, [], rfl, gave_nil, ⟨hb1.os, hb1.tape, hb1.output, hb1.size, hb1.block⟩⟩
set_option maxRecDepth 100000 in
theorem call_below (n : Nat) : CallOK Tryz.prog 3 9 tab n 18 [.str, .sl 66, .int .i64, .int .i64] := by
  intro F W b cs hn ht hr hb hF
  obtain ⟨tag, a, len, cap, rows, i, j, rfl, _, h1, h2, q0, q1, q2, q3⟩ := y_at ht hr
  have hnn : nodesRows rows ≤ 1099511627776 := by
    simp only [nodesRow, nodes, limY] at hn; omega
  have hc := below_ok F W.drew (.slice a len cap) i j len cap rows (Rd.mono (w := W) (w' := W.drew) (fun k hk => ⟨hk, rfl⟩) _ _ h1) h2 hF hnn
  have HC := Lib.hid hc
  clear hc h1 h2 hr ht hn
  go_enter Tryz.func18, Tryz.ntmps18
  go_wp2_with fail
  go_still_tail 12, (by kernel_rfl)
  change wpList _ _ _ _ _ W.drew
  go_wp2_with fail
  refine HC.out.mono ?_
  rintro e w1 ⟨⟨m, m', rfl⟩, hb1⟩
  go_wp2_with fail
  go_ret
  exact ⟨_, [], rfl, gave_nil, ⟨hb1.os, hb1.tape, hb1.output, hb1.size, hb1.block⟩⟩
end Go.Proofs.YtaibjehembkolaaGreatDoor
namespace Go.Proofs.YtaibjehembkolaaGreatDoor
open Go.RowKit Go.Vt Go.Proofs
set_option maxRecDepth 100000 in
theorem see_f9 (n : Nat) : SeeOK Tryz.prog 3 9 tab n 9 [.sl 66] := by
  intro mk rm cs F w be oe B b o ns ss at_ hn h
  have hc := see_seeTree n mk rm cs F w be oe B b o ns ss at_ hn h
  have HC := Lib.hid hc
  clear hc h hn
  go_enter Tryz.func9, Tryz.ntmps9
  go_wp2_with fail
  refine HC.out.mono ?_
  rintro e w1 ⟨rfl, hp⟩
  go_wp2_with fail
  go_end0
  exact ⟨rfl, hp⟩
set_option maxRecDepth 100000 in
theorem see_f15 (n : Nat) : SeeOK Tryz.prog 3 9 tab n 15 [.sl 66] := by
  intro mk rm cs F w be oe B b o ns ss at_ hn h
  have hc := see_seeTree n mk rm cs F w be oe B b o ns ss at_ hn h
  have HC := Lib.hid hc
  clear hc h hn
  go_enter Tryz.func15, Tryz.ntmps15
  go_wp2_with fail
  refine HC.out.mono ?_
  rintro e w1 ⟨rfl, hp⟩
  go_wp2_with fail
  go_end0
  exact ⟨rfl, hp⟩
end Go.Proofs.YtaibjehembkolaaGreatDoor
namespace Go.Proofs.YtaibjehembkolaaGreatDoor
open Go.RowKit Go.Vt Go.Proofs
theorem gave_one {n B T E f : Nat} {t : CT} {c : C} {v : Value} {w1 : World} (hs : SeeOK Tryz.prog 3 9 tab n f [t]) (he : ∀ args w, (callFunc f args).run Tryz.prog w = .ok (.enter f args) w) (hB : B ≤ w1.heap.size) (hr : Rd (Nw B w1) w1 c v) (ht : Ht tab t c) (hn : nodes c ≤ n) (hl : nodes c ≤ limO) :
    ∃ outs, Gave Tryz.prog 3 9 tab n B ((w1.alloc (Obj.cells #[v] T)).alloc (Obj.cells #[Value.func (.func f) #[] #[.pointer (some ⟨w1.heap.size, 0, none⟩)]] E)) (.slice (some ⟨w1.heap.size + 1, 0, none⟩) 1 1) outs := by
  obtain ⟨W2, hW2⟩ : ∃ W2, W2 = (w1.alloc (Obj.cells #[v] T)).alloc (Obj.cells #[Value.func (.func f) #[] #[.pointer (some ⟨w1.heap.size, 0, none⟩)]] E) := ⟨_, rfl⟩
  have s2 : W2.heap.size = w1.heap.size + 2 := by rw [hW2, alloc_size, alloc_size]
  have b2 : Below w1.heap.size w1 W2 := by rw [hW2]; exact ((Below.refl _ _).alloc (Nat.le_refl _) _).alloc (by rw [alloc_size]; omega) _
  have x2 : W2.heap[w1.heap.size]? = some (.cells #[v] T (0, 0)) := by rw [hW2]; exact (Below.heap_alloc _ _ _ (by rw [alloc_size]; omega)).trans (heap_alloc_new w1 _)
  have y2 : W2.heap[w1.heap.size + 1]? = some (.cells #[Value.func (.func f) #[] #[.pointer (some ⟨w1.heap.size, 0, none⟩)]] E (0, 0)) := by
    rw [hW2]; have := heap_alloc_new (w1.alloc (Obj.cells #[v] T)) (Obj.cells #[Value.func (.func f) #[] #[.pointer (some ⟨w1.heap.size, 0, none⟩)]] E); rwa [alloc_size] at this
  rw [← hW2]
  refine ⟨[⟨f, w1.heap.size, [t], [c], fun k => B ≤ k ∧ k ≤ w1.heap.size ∧ ∃ c e, W2.heap[k]? = some (.cells c e (0, 0))⟩], by simp, fun o ho => ?_, fun i j oi oj hij hi hj => ?_, some ⟨w1.heap.size + 1, 0, none⟩, 1, w1.heap.size + 1, rfl, fun _ => ⟨rfl, by omega, by omega⟩, fun o ho => ?_, fun j o hj => ?_⟩
  · obtain rfl := List.mem_singleton.1 ho
    refine ⟨hs, he, by simp only [HtRow]; exact ⟨ht, trivial⟩, ?_, ⟨hB, Nat.le_refl _, _, _, x2⟩, fun k hk => ⟨hk.1, by have := hk.2.1; omega, hk.2.2⟩, by simpa [nodesRow] using hn, by simpa [nodesRow] using hl⟩
    simp only [RdRow, and_true]
    refine ⟨v, cell_of_row _ _ 0 _ _ _ x2, Rd.mono (fun k hk => ?_) _ _ hr⟩
    obtain ⟨g1, g2, cc, e, g3⟩ := hk
    have := b2.block k g2
    exact ⟨⟨g1, by omega, cc, e, this.trans g3⟩, this⟩
  · have h1 := (List.getElem?_eq_some_iff.1 hi).1
    have h2 := (List.getElem?_eq_some_iff.1 hj).1
    simp only [List.length_cons, List.length_nil] at h1 h2
    omega
  · obtain rfl := List.mem_singleton.1 ho
    intro h; have := h.2.1; omega
  · cases j with
    | zero => simp at hj; subst hj; exact cell_of_row _ _ 0 _ _ _ y2
    | succ j => simp at hj
set_option maxRecDepth 100000 in
theorem call_new : CallOK Tryz.prog 3 9 tab limO 7 [.str, .sl 66, .int .i64, .int .i64] := by
  intro F W b cs hn ht hr hb hF
  obtain ⟨tag, a, len, cap, rows, i, j, rfl, htag, h1, h2, q0, q1, q2, q3⟩ := y_at ht hr
  have hc := new_ok W tag htag
  have HC := Lib.hid hc
  clear hc h1 h2 hr ht hn
  go_enter Tryz.func7, Tryz.ntmps7
  go_wp2_with fail
  refine HC.out.mono ?_
  rintro e w1 ⟨⟨v, m, rfl, len', cap', rows', k1, k2, k3⟩, hb1⟩
  obtain ⟨a', b', o', rfl, k4, k5⟩ := row_at k1 (fun k hk => hk.2.1)
  go_wp2_with fail
  go_ret
  obtain ⟨outs, hg⟩ := gave_one (T := 24) (E := 38) (see_f9 limO) (fun _ _ => rfl) hb1.size k1 (t := .sl 66) (by simp only [Ht]; exact ⟨66, rfl, rfl, k2⟩) (by simp only [nodes, limO]; omega) (by simp only [nodes, limO]; omega)
  exact ⟨_, outs, rfl, hg, (hb1.alloc hb1.size _).alloc (by rw [alloc_size]; have := hb1.size; omega) _⟩
end Go.Proofs.YtaibjehembkolaaGreatDoor
