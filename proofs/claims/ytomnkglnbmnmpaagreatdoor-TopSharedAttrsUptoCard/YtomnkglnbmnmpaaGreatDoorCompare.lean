/- order.Compare: it answers two numbers and leaves the memory. -/
import Derived.Test.YtomnkglnbmnmpaaGreatDoorListDown
import Derived.WalkKit
import Derived.WalkSpells
import Derived.WalkLawsBesides
import Derived.Deep.AppendLies
namespace Go.Proofs.YtomnkglnbmnmpaaGreatDoor
open Go.RowKit Go.Vt Go.Proofs
/-- A row of numbers of one's own reads as data in new memory. -/
theorem nats_rd {w : World} {B : Nat} {v : Value} {xs : List Nat} (h : w.ownsRow B 3 1 v xs.length (natVals xs)) (hx : xs.length ≤ 64) (hl : ∀ x ∈ xs, x < 1099511627776) : ∃ a c rows, v = .slice a xs.length c ∧ Rd (Nw B w) w (.sl 1 xs.length c rows) (.slice a xs.length c) ∧ HtRows tab [.int .i64] rows ∧ nodesRows rows ≤ 128 := by
  rcases IntsAt.of_own h (fun j hj => ⟨(xs[j] : Int), by simp [natVals, List.getElem?_eq_getElem hj], small_wrap (by omega) (by have := hl xs[j] (List.getElem_mem hj); omega)⟩) with ⟨rfl, h0⟩ | ⟨g, c, rfl, hg, hi⟩
  · refine ⟨none, 0, [], by rw [h0], ?_, by simp [HtRows], by simp [nodesRows]⟩
    rw [h0]; simp only [Rd]; exact ⟨none, rfl, by simp, by simp, .inl trivial⟩
  · obtain ⟨rows, r1, r2, r3⟩ := hi.rd (tab := tab) hg
    exact ⟨_, c, rows, rfl, r1, r2, by omega⟩
set_option maxRecDepth 100000 in
set_option maxHeartbeats 1000000 in
/-- order.Compare. -/
theorem compare_ok2 (F : Nat → Prop) (w : World) (a : Option Addr) (x y : Int) (len cap : Nat) (rows : List (List C)) (hr : Rd F w (.sl 4 len cap rows) (.slice a len cap)) (ht : HtRows tab [.str, .sl 116, .int .i64, .sl 3] rows) (hF : ∀ k, F k → k < w.heap.size) (hnn : nodesRows rows ≤ 1099511627776) :
    Calls Tryz.prog 46 #[.agg #[.slice a len cap], .int .i64 x, .int .i64 y] w fun e w' => IntErrP e ∧ Below w.heap.size w w' := by
  obtain ⟨W, hW⟩ : ∃ W, W = w.alloc (Obj.cells #[.slice a len cap] 24) := ⟨_, rfl⟩
  have hb : Below w.heap.size w W := by rw [hW]; exact (Below.refl _ _).alloc (Nat.le_refl _) _
  have s1 : W.heap.size = w.heap.size + 1 := by rw [hW, alloc_size]
  have x1 : W.heap[w.heap.size]? = some (.cells #[.slice a len cap] 24 (0, 0)) := by rw [hW]; exact heap_alloc_new w _
  have tops : ∀ (z : Int) (V : World), Below w.heap.size w V → Calls Tryz.prog 92 #[.agg #[.slice a len cap], .int .i64 z] V fun e w' => TopP rows len z e ∧ Below V.heap.size V w' := fun z V hV =>
    top2_ok F V (.slice a len cap) z len cap rows (Rd.mono (fun k hk => ⟨hk, hV.block k (hF k hk)⟩) _ _ hr) ht (fun k hk => Nat.lt_of_lt_of_le (hF k hk) hV.size) hnn
  have lists : ∀ (z : Int) (V : World), Below w.heap.size w V → Calls Tryz.prog 42 #[.agg #[.slice a len cap], .int .i64 z] V fun e w' => ListP rows len z V.heap.size e w' ∧ Below V.heap.size V w' := fun z V hV =>
    list_ok F V a z len cap rows (Rd.mono (fun k hk => ⟨hk, hV.block k (hF k hk)⟩) _ _ hr) ht (fun k hk => Nat.lt_of_lt_of_le (hF k hk) hV.size) hnn
  have c0 : W.cell? ⟨w.heap.size, 0, none⟩ = some (.slice a len cap) := cell_of_row _ _ 0 _ _ _ x1
  have HTP := Lib.hid tops
  have HL := Lib.hid lists
  have HW := Lib.hid hW
  have HB := Lib.hid hb
  have HX := Lib.hid (And.intro x1 s1)
  clear tops lists hW hb hr ht hF x1 s1
  go_enter Tryz.func46, Tryz.ntmps46
  go_wp2_with fail
  rw [← HW.out]
  refine (HTP.out x W HB.out).mono ?_
  rintro e w1 ⟨⟨p, n, rfl, hn⟩, hb1⟩
  have hb2 := HB.out.trans (hb1.mono HB.out.size)
  have x2 : w1.heap[w.heap.size]? = some (.cells #[.slice a len cap] 24 (0, 0)) := (hb1.block _ (by have := HX.out.2; omega)).trans HX.out.1
  have c1 : w1.cell? ⟨w.heap.size, 0, none⟩ = some (.slice a len cap) := cell_of_row _ _ 0 _ _ _ x2
  have s2 : w.heap.size < w1.heap.size := by have := HX.out.2; have := hb1.size; omega
  have HB2 := Lib.hid hb2
  have HX2 := Lib.hid x2
  have HN := Lib.hid hn
  clear hb1 hb2 c0 x2 hn
  by_cases hn0 : n = 0
  case neg =>
    have hn1 : (n != 0) = true := by simp [hn0]
    go_wp2_with fail
    go_ret2
    exact ⟨⟨_, n, rfl⟩, HB2.out⟩
  case pos =>
    subst hn0
    go_wp2_with fail
    refine (HTP.out y w1 HB2.out).mono ?_
    rintro e w2 ⟨⟨p2, n, rfl, hn2⟩, hb3⟩
    have hb4 := HB2.out.trans (hb3.mono HB2.out.size)
    have x3 : w2.heap[w.heap.size]? = some (.cells #[.slice a len cap] 24 (0, 0)) := (hb3.block _ s2).trans HX2.out
    have c2 : w2.cell? ⟨w.heap.size, 0, none⟩ = some (.slice a len cap) := cell_of_row _ _ 0 _ _ _ x3
    have HB4 := Lib.hid hb4
    clear hb3 hb4 c1 x3 hn2
    by_cases hn0 : n = 0
    case neg =>
      have hn1 : (n != 0) = true := by simp [hn0]
      go_wp2_with fail
      go_ret2
      exact ⟨⟨_, n, rfl⟩, HB4.out⟩
    case pos =>
      subst hn0
      by_cases hpp : p = p2
      case neg =>
        have hn1 : (p != p2) = true := by simp [hpp]
        go_wp2_with fail
        go_ret2
        exact ⟨⟨_, _, rfl⟩, HB4.out⟩
      case pos =>
        subst hpp
        have hn1 : (p != p) = false := by simp
        go_wp2_with fail
        refine (HL.out p w2 HB4.out).mono ?_
        rintro e w3 ⟨⟨v, n3, xs, rfl, ho, hxl, hx64, hxx⟩, hb5⟩
        have hb6 := HB4.out.trans (hb5.mono HB4.out.size)
        obtain ⟨av, cv, rv, rfl, r1, r2, r3⟩ := nats_rd ho hxl (fun x hx => by have := hx64 x hx; omega)
        have hix := fun z => index2_ok tab (Nw w2.heap.size w3) w3 (.slice av xs.length cv) z xs.length cv rv r1 r2 (fun k hk => hk.2.1) (by omega)
        have HIX := Lib.hid hix
        have HB6 := Lib.hid hb6
        clear hb5 hb6 c2 hix r1 r2 r3 ho hxx hx64
        go_wp2_with fail
        refine (HIX.out x).mono ?_
        rintro e w4 ⟨⟨m1, rfl, _⟩, hw⟩
        rw [hw]
        clear hw
        go_wp2_with fail
        refine (HIX.out y).mono ?_
        rintro e w5 ⟨⟨m2, rfl, _⟩, hw⟩
        rw [hw]
        clear hw
        rcases Int.lt_trichotomy m1 m2 with h | h | h
        · go_wp2_with fail
          go_ret2
          exact ⟨⟨_, _, rfl⟩, HB6.out⟩
        · have h2 : decide (m1 < m2) = false := by simp; omega
          have h3 : decide (m2 < m1) = false := by simp; omega
          go_wp2_with fail
          go_ret2
          exact ⟨⟨_, _, rfl⟩, HB6.out⟩
        · have h2 : decide (m1 < m2) = false := by simp; omega
          go_wp2_with fail
          go_ret2
          exact ⟨⟨_, _, rfl⟩, HB6.out⟩
end Go.Proofs.YtomnkglnbmnmpaaGreatDoor
