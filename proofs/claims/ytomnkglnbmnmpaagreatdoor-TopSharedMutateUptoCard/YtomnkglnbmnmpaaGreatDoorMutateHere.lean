/- The cells of the law's argument, and the closures that show a result. -/
import Derived.Test.YtomnkglnbmnmpaaGreatDoorNew
import Derived.Test.YtomnkglnbmnmpaaGreatDoorAdd
import Derived.Test.YtomnkglnbmnmpaaGreatDoorGave
import Derived.WalkKit
import Derived.WalkSpells
import Derived.WalkLawsBesides
import Derived.Deep.RegionWith
import Derived.RegionTactic
namespace Go.Proofs.YtomnkglnbmnmpaaGreatDoor
open Go.RowKit Go.Vt Go.Proofs
/-- y's cells. -/
theorem y_at_Mutate {F : Nat → Prop} {w : World} {b : Nat} {cs : List C} (ht : HtRow tab [.sl 107, .int .i64, .int .i64, .int .i64] cs) (h : RdRow F w b 0 cs) :
    ∃ (a : _) (len : _) (cap : _) (rows : _) (i1 : Int) (i2 : Int) (i3 : Int), cs = [.sl 4 len cap rows, .int .i64 i1, .int .i64 i2, .int .i64 i3] ∧ Rd F w (.sl 4 len cap rows) (.slice a len cap) ∧ HtRows tab [.str, .sl 116, .int .i64, .sl 3] rows ∧ w.cell? ⟨b, 0, none⟩ = some (.slice a len cap) ∧ w.cell? ⟨b, 1, none⟩ = some (.int .i64 i1) ∧ w.cell? ⟨b, 2, none⟩ = some (.int .i64 i2) ∧ w.cell? ⟨b, 3, none⟩ = some (.int .i64 i3) := by
  obtain ⟨c0, cs0, rfl, k0, h1⟩ := ht.cons
  obtain ⟨c1, cs1, rfl, k1, h2⟩ := h1.cons
  obtain ⟨c2, cs2, rfl, k2, h3⟩ := h2.cons
  obtain ⟨c3, cs3, rfl, k3, h4⟩ := h3.cons
  obtain rfl := h4.nil
  obtain ⟨len, cap, rows, rfl, g1⟩ := ht_slE k0
  obtain ⟨i1, rfl⟩ := ht_int k1
  obtain ⟨i2, rfl⟩ := ht_int k2
  obtain ⟨i3, rfl⟩ := ht_int k3
  simp only [RdRow, and_true] at h
  obtain ⟨⟨v0, q0, r0⟩, ⟨v1, q1, r1⟩, ⟨v2, q2, r2⟩, ⟨v3, q3, r3⟩⟩ := h
  have r' := r0
  simp only [Rd] at r0 r1 r2 r3
  obtain ⟨a, rfl, _⟩ := r0
  subst r1 r2 r3
  exact ⟨a, len, cap, rows, i1, i2, i3, rfl, r', g1, q0, q1, q2, q3⟩
set_option maxRecDepth 100000 in
theorem see_f12 (n : Nat) : SeeOK Tryz.prog 3 9 tab n 12 [.sl 107] := by
  intro mk rm cs F w be oe B b o ns ss at_ hn h
  have hc := see_seeTree n mk rm cs F w be oe B b o ns ss at_ hn h
  have HC := Lib.hid hc
  clear hc h hn
  go_enter Tryz.func12, Tryz.ntmps12
  go_wp2_with fail
  refine HC.out.mono ?_
  rintro e w1 ⟨rfl, hp⟩
  go_wp2_with fail
  go_end0
  exact ⟨rfl, hp⟩
set_option maxRecDepth 100000 in
theorem see_f16 (n : Nat) : SeeOK Tryz.prog 3 9 tab n 16 [.sl 107] := by
  intro mk rm cs F w be oe B b o ns ss at_ hn h
  have hc := see_seeTree n mk rm cs F w be oe B b o ns ss at_ hn h
  have HC := Lib.hid hc
  clear hc h hn
  go_enter Tryz.func16, Tryz.ntmps16
  go_wp2_with fail
  refine HC.out.mono ?_
  rintro e w1 ⟨rfl, hp⟩
  go_wp2_with fail
  go_end0
  exact ⟨rfl, hp⟩
set_option maxRecDepth 100000 in
theorem see_f19 (n : Nat) : SeeOK Tryz.prog 3 9 tab n 19 [.sl 107] := by
  intro mk rm cs F w be oe B b o ns ss at_ hn h
  have hc := see_seeTree n mk rm cs F w be oe B b o ns ss at_ hn h
  have HC := Lib.hid hc
  clear hc h hn
  go_enter Tryz.func19, Tryz.ntmps19
  go_wp2_with fail
  refine HC.out.mono ?_
  rintro e w1 ⟨rfl, hp⟩
  go_wp2_with fail
  go_end0
  exact ⟨rfl, hp⟩
end Go.Proofs.YtomnkglnbmnmpaaGreatDoor
