/- Lists of numbers of one's own: delete, copy, insert. -/
import Derived.Test.YtgkamgijnhbcbaaGreatDoorClone
import Derived.Test.YtgkamgijnhbcbaaGreatDoorProg
import Derived.WalkKit
import Derived.WalkSpells
import Derived.WalkLawsBesides
import Derived.Lib.SliceRun
import Derived.Test.YtgkamgijnhbcbaaGreatDoorClones
import Derived.OwnWalk
namespace Go.Proofs.YtgkamgijnhbcbaaGreatDoor
open Go.RowKit Go.Vt Go.Proofs
set_option maxRecDepth 100000 in
theorem same_child (w : World) (z child : Int) (c : Nat) (hc : w.cell? ⟨c, 0, none⟩ = some (.int .i64 child)) : Calls Tryz.prog 399 #[.int .i64 z, .pointer (some ⟨c, 0, none⟩)] w fun e w' => (∃ b, e = .returned (.bool b)) ∧ w' = w := by
  go_enter Tryz.func399, Tryz.ntmps399
  go_wp2_with fail
  go_ret
  exact ⟨⟨_, rfl⟩, rfl⟩
set_option maxRecDepth 100000 in
theorem index_func (w : World) (a : Option Addr) (g len cap c : Nat) (child : Int) (ha : 0 < len → a = some ⟨g, 0, none⟩) (hi : ∀ j, j < len → ∃ z, w.cell? ⟨g, j, none⟩ = some (.int .i64 z)) (hl : len ≤ 1099511627776) (hc : w.cell? ⟨c, 0, none⟩ = some (.int .i64 child)) :
    Calls Tryz.prog 73 #[.slice a len cap, .func (.func 399) #[] #[.pointer (some ⟨c, 0, none⟩)]] w fun e w' => (∃ i : Int, e = .returned (.int .i64 i) ∧ -1 ≤ i ∧ i < len) ∧ w' = w := by
  have H := Lib.hid hi
  have HA := Lib.hid ha
  have HC := Lib.hid hc
  clear hi ha hc
  go_enter Tryz.func73, Tryz.ntmps73
  go_wp2_with fail
  go_loopw [8] (fun x8 wr => ∃ i : Nat, i ≤ len ∧ x8 = .int .i64 i ∧ wr = w) (fun x8 _ => len - (intOf x8).toNat)
  case atStart => exact ⟨0, by omega, rfl, rfl⟩
  case round =>
    obtain ⟨i, hi, rfl, hwr⟩ := hrel
    by_cases hlt : i < len
    case pos =>
      obtain rfl := HA.out (by omega)
      obtain ⟨z, hz⟩ := H.out i hlt
      have hzr : wr.cell? ⟨g, i, none⟩ = some (.int .i64 z) := by rw [hwr]; exact hz
      have hcr : wr.cell? ⟨c, 0, none⟩ = some (.int .i64 child) := by rw [hwr]; exact HC.out
      have hs := same_child wr z child c hcr
      have HS := Lib.hid hs
      have HW := Lib.hid hwr
      clear hs hwr hz
      go_wp2_with fail
      refine HS.out.mono ?_
      rintro e w2 ⟨⟨b, rfl⟩, hw2⟩
      cases b with
      | true =>
        go_wp2_with fail
        go_ret
        exact ⟨⟨i, rfl, by omega, by omega⟩, HW.out⟩
      | false =>
        go_wp2_with fail
        exact ⟨⟨i + 1, by omega, by go_num, HW.out⟩, by simp [intOf]; omega⟩
    case neg =>
      obtain rfl : i = len := by omega
      have HW := Lib.hid hwr
      clear hwr
      go_wp2_with fail
      go_ret
      exact ⟨⟨-1, rfl, by omega, by omega⟩, HW.out⟩
/-- Nothing but block g is other than it was. -/
structure OnlyAt (g : Nat) (w w' : World) : Prop where
  os : w'.os = w.os
  tape : w'.tape = w.tape
  output : w'.output = w.output
  size : w'.heap.size = w.heap.size
  block : ∀ k, k ≠ g → w'.heap[k]? = w.heap[k]?
theorem OnlyAt.refl (g : Nat) (w : World) : OnlyAt g w w := ⟨rfl, rfl, rfl, rfl, fun _ _ => rfl⟩
theorem OnlyAt.set {g j : Nat} {w w' : World} (h : OnlyAt g w w') (u : Value) : OnlyAt g w (w'.setCell ⟨g, j, none⟩ u) :=
  ⟨h.os, h.tape, h.output, by rw [← h.size]; simp only [World.setCell, Array.size_modify], fun k hk => (Below.heap_setCell _ _ _ _ hk).trans (h.block k hk)⟩
theorem OnlyAt.sets {g : Nat} {w : World} : ∀ (vs : List Value) (o : Nat) {w' : World}, OnlyAt g w w' → OnlyAt g w (w'.setCells g o vs)
  | [], _, _, h => h
  | v :: vs, o, _, h => OnlyAt.sets vs (o + 1) (h.set v)
theorem OnlyAt.cell {g c : Nat} {w w' : World} (h : OnlyAt g w w') (hc : c ≠ g) {j : Nat} {x : Value} (hx : w.cell? ⟨c, j, none⟩ = some x) : w'.cell? ⟨c, j, none⟩ = some x := (World.cell?_of_block (w := w) (h.block c hc)).trans hx
theorem OnlyAt.below {g B : Nat} {w0 w w' : World} (h : OnlyAt g w w') (hb : Below B w0 w) (hg : B ≤ g) : Below B w0 w' :=
  ⟨h.os.trans hb.os, h.tape.trans hb.tape, h.output.trans hb.output, by rw [h.size]; exact hb.size, fun k hk => (h.block k (by omega)).trans (hb.block k hk)⟩
theorem IntsAt.sets {E g n cap : Nat} : ∀ (vs : List Value) (o : Nat) {w : World}, (∀ v ∈ vs, ∃ z, v = .int .i64 z ∧ IntKind.i64.wrap z = z) → IntsAt w E g n cap → IntsAt (w.setCells g o vs) E g n cap
  | [], _, _, _, h => h
  | v :: vs, o, _, hv, h => by
    obtain ⟨z, rfl, hz⟩ := hv v (by simp)
    exact IntsAt.sets vs (o + 1) (fun x hx => hv x (by simp [hx])) (h.set o hz)
set_option maxRecDepth 100000 in
theorem delete_nil (w : World) (c0 c : Nat) (child : Int) (hc : w.cell? ⟨c, 0, none⟩ = some (.int .i64 child)) :
    Calls Tryz.prog 398 #[.slice none 0 c0, .func (.func 399) #[] #[.pointer (some ⟨c, 0, none⟩)]] w fun e w' => e = .returned (.slice none 0 c0) ∧ w' = w := by
  have hi := index_func w none 0 0 c0 c child (by omega) (by omega) (by omega) hc
  have HI := Lib.hid hi
  clear hi hc
  go_enter Tryz.func398, Tryz.ntmps398
  go_wp2_with fail
  refine HI.out.mono ?_
  rintro e w1 ⟨⟨i, rfl, h1, h2⟩, hw⟩
  obtain rfl := hw.symm
  obtain rfl : i = -1 := by omega
  go_wp2_with fail
  go_ret
  exact ⟨rfl, by first | trivial | rfl⟩
set_option maxRecDepth 100000 in
set_option maxHeartbeats 1000000 in
theorem delete_own (w : World) (g len cap c : Nat) (child : Int) (hg : IntsAt w 3 g len cap) (hgc : c ≠ g) (hl : len ≤ 1099511627776) (hc : w.cell? ⟨c, 0, none⟩ = some (.int .i64 child)) :
    Calls Tryz.prog 398 #[.slice (some ⟨g, 0, none⟩) len cap, .func (.func 399) #[] #[.pointer (some ⟨c, 0, none⟩)]] w fun e w' => ∃ m, e = .returned (.slice (some ⟨g, 0, none⟩) m cap) ∧ m ≤ len ∧ IntsAt w' 3 g m cap ∧ OnlyAt g w w' := by
  have hi := index_func w (some ⟨g, 0, none⟩) g len cap c child (fun _ => rfl) (fun j hj => by obtain ⟨z, h, _⟩ := hg.cell hj; exact ⟨z, h⟩) hl hc
  have HI := Lib.hid hi
  have HC := Lib.hid hc
  have HG := Lib.hid hg
  clear hi hc hg
  go_enter Tryz.func398, Tryz.ntmps398
  go_wp2_with fail
  refine HI.out.mono ?_
  rintro e w1 ⟨⟨i, rfl, h1, h2⟩, hw⟩
  obtain rfl := hw.symm
  by_cases hm : i = -1
  case pos =>
    subst hm
    go_wp2_with fail
    go_ret
    exact ⟨len, rfl, Nat.le_refl _, HG.out, OnlyAt.refl _ _⟩
  case neg =>
    obtain ⟨n, rfl⟩ : ∃ n : Nat, i = n := ⟨i.toNat, by omega⟩
    have hm1 : ((n : Int) == -1) = false := by first | (simp; done) | (simp; omega)
    have hm2 : ¬ ((n : Int) = -1) := hm
    go_wp2_with fail
    go_loopw [5, 6] (fun x5 x6 wr => ∃ i j : Nat, x5 = .int .i64 i ∧ x6 = .int .i64 j ∧ i < j ∧ j ≤ len ∧ IntsAt wr 3 g len cap ∧ OnlyAt g w wr) (fun _ x6 _ => len - (intOf x6).toNat)
    case atStart => exact ⟨n, n + 1, rfl, by go_num, by omega, by omega, HG.out, OnlyAt.refl _ _⟩
    case round =>
      obtain ⟨i, j, rfl, rfl, hij, hj, hI, hO⟩ := hrel
      by_cases hlt : j < len
      case pos =>
        obtain ⟨z, hz, hzw⟩ := hI.cell hlt
        obtain ⟨y, hy, _⟩ := hI.cell (show i < len by omega)
        have hf := hI.frozen i
        have hs := same_child wr z child c (hO.cell hgc HC.out)
        have HS := Lib.hid hs
        have HK := Lib.hid (And.intro hI hO)
        clear hs hI hO
        go_wp2_with fail
        refine HS.out.mono ?_
        rintro e w2 ⟨⟨b, rfl⟩, hw2⟩
        obtain rfl := hw2.symm
        cases b with
        | true =>
          go_wp2_with fail
          exact ⟨⟨i, j + 1, rfl, by go_num, by omega, by omega, HK.out.1, HK.out.2⟩, by simp [intOf]; omega⟩
        | false =>
          go_wp2_with fail
          exact ⟨⟨i + 1, j + 1, by go_num, by go_num, by omega, by omega, HK.out.1.set i hzw, HK.out.2.set _⟩, by simp [intOf]; omega⟩
      case neg =>
        obtain rfl : j = len := by omega
        have HK := Lib.hid (And.intro hI hO)
        have hcl := fun (c0 : Nat) => Lib.run_clear_slice (P := Tryz.prog) wr 34 3 0 (.int .i64 0) Tryz.underlying34 (fun W => by kernel_rfl) rfl rfl g i (j - i) c0 (by omega) (fun k hk => by obtain ⟨z, h, _⟩ := HK.out.1.cell (show i + k < j by omega); rw [h]; rfl) (fun k _ => HK.out.1.frozen (i + k))
        have hcap : j ≤ cap := HK.out.1.cap_le.1
        have hci : i < cap := by omega
        have hci2 : ¬ cap = i := by omega
        have hci3 : ¬ i = cap := by omega
        have hci4 : i ≤ cap := by omega
        clear hI hO
        go_wp2_with fail
        go_ret
        refine ⟨i, rfl, by omega, (IntsAt.sets _ _ ?_ HK.out.1).le (by omega), HK.out.2.sets _ _⟩
        intro v hv
        obtain rfl := List.eq_of_mem_replicate hv
        exact ⟨0, rfl, by decide⟩
end Go.Proofs.YtgkamgijnhbcbaaGreatDoor
namespace Go.Proofs.YtgkamgijnhbcbaaGreatDoor
open Go.RowKit Go.Vt Go.Proofs
set_option maxRecDepth 100000 in
/-- A copy of a list of numbers: a block of numbers of one's own. -/
theorem clone_kids (F : Nat → Prop) (w : World) (v : Value) (len cap : Nat) (rows : List (List C)) (hr : Rd F w (.sl 1 len cap rows) v) (ht : HtRows tab [.int .i64] rows) (hlen : len ≤ 1099511627776) :
    Calls Tryz.prog 83 #[v] w fun e w' => (∃ v', e = .returned v' ∧ ((v' = .slice none 0 0 ∧ len = 0) ∨ ∃ g c, v' = .slice (some ⟨g, 0, none⟩) len c ∧ w.heap.size ≤ g ∧ IntsAt w' 3 g len c)) ∧ Below w.heap.size w w' := by
  have hq : ∀ (W : World) (a : Option Addr) (n c n1 c1 : Nat), (binOp .eql 34 (.slice a n c) (.slice none n1 c1)).run Tryz.prog W = .ok (.bool a.isNone) W := fun W a n c n1 c1 => Lib.run_eql_slice_nil W _ _ a n c n1 c1 Tryz.underlying34
  obtain ⟨i0, hi0, hz0, hz1, hz2⟩ := info_parts zinfo3
  obtain ⟨a, rfl, h2, h3⟩ : ∃ a, v = .slice a len cap ∧ len ≤ rows.length ∧ rows.length ≤ cap := by simp only [Rd] at hr; obtain ⟨a, h1, h2, h3, _⟩ := hr; exact ⟨a, h1, h2, h3⟩
  cases a with
  | none =>
    have hq1 := fun W => hq W none len cap 0 0
    have hl0 : len = 0 := by
      simp only [Rd] at hr
      obtain ⟨a, h1, _, _, h4⟩ := hr
      rcases h4 with h4 | ⟨_, _, h4, _⟩
      · rw [h4] at h2; simpa using h2
      · rw [h4] at h1; cases h1
    clear hq
    go_enter Tryz.func83, Tryz.ntmps83
    subst hl0
    go_wp2_with fail
    go_ret
    first | exact ⟨⟨_, rfl, .inl ⟨rfl, rfl⟩⟩, Below.refl _ _⟩ | exact ⟨⟨_, rfl, .inl rfl⟩, Below.refl _ _⟩
  | some ad =>
    have hq1 := fun W => hq W (some ad) len cap 0 0
    clear hq
    have own0 : (w.alloc (Obj.cells #[] 3)).ownsRow w.heap.size 3 1 (.slice (some ⟨w.heap.size, 0, none⟩) 0 0) 0 [] := ⟨by simp, .inr ⟨w.heap.size, 0, #[], rfl, Nat.le_refl _, heap_alloc_new w _, Nat.le_refl _, by decide, by simp, by simp⟩⟩
    obtain ⟨news, nf, nl, nc, n1⟩ := Rd.news hr (Obj.cells #[] 3)
    go_enter Tryz.func83, Tryz.ntmps83
    go_wp2_with (at_builtin; go_must (refine wpList_append_own_at _ rfl _ _ 34 rfl w.heap.size 3 i0 _ 1 8 Tryz.underlying34 hi0 hz0 hz1 hz2 rfl (by decide) (.slice (some ⟨w.heap.size, 0, none⟩) 0 0) 0 [] rfl own0 ad len cap news rfl nl nc n1 (by simp [maxLen]; omega) (by omega) (by simp) ?_; intro v' w' ho hgr _ _))
    go_ret
    rw [Nat.zero_add, List.nil_append] at ho
    have hx : ∀ j, j < len → ∃ z, news[j]? = some (.int .i64 z) ∧ IntKind.i64.wrap z = z := fun j hj => ints_of_flat (rows.take len) news nf (HtRows.take len rows ht) j (by simp; omega)
    refine ⟨⟨_, rfl, ?_⟩, ((Below.refl _ _).alloc (Nat.le_refl _) _).grown hgr (by simp) (fun k e => by cases e; exact Nat.le_refl _)⟩
    rcases IntsAt.of_own ho hx with ⟨rfl, rfl⟩ | ⟨g, c, rfl, hb, hi⟩
    · exact .inl ⟨rfl, by first | trivial | rfl⟩
    · exact .inr ⟨g, c, rfl, hb, hi⟩
/-- What is left of a list of numbers of one's own. -/
theorem delete_kids (w : World) (v : Value) (B len c : Nat) (child : Int) (hB : B ≤ w.heap.size) (hv : (v = .slice none 0 0 ∧ len = 0) ∨ ∃ g c0, v = .slice (some ⟨g, 0, none⟩) len c0 ∧ B ≤ g ∧ IntsAt w 3 g len c0) (hcB : c < B) (hl : len ≤ 1099511627776) (hc : w.cell? ⟨c, 0, none⟩ = some (.int .i64 child)) :
    Calls Tryz.prog 398 #[v, .func (.func 399) #[] #[.pointer (some ⟨c, 0, none⟩)]] w fun e w' => ∃ a m c1, e = .returned (.slice a m c1) ∧ m ≤ len ∧ KidV (Nw B w') w' 3 (.slice a m c1) m ∧ Below B w w' := by
  rcases hv with ⟨rfl, rfl⟩ | ⟨g, c0, rfl, hg, hi⟩
  · refine (delete_nil w 0 c child hc).mono ?_
    rintro e w' ⟨rfl, rfl⟩
    exact ⟨none, 0, 0, rfl, Nat.le_refl _, .inl ⟨rfl, rfl⟩, Below.refl _ _⟩
  · refine (delete_own w g len c0 c child hi (by omega) hl hc).mono ?_
    rintro e w' ⟨m, rfl, hm, hi', hO⟩
    have hlt := hi'.lt
    obtain ⟨cur, hcur, _⟩ := id hi'
    exact ⟨_, m, c0, rfl, hm, .inr ⟨g, c0, rfl, ⟨hg, hlt, _, _, hcur⟩, hi'⟩, hO.below (Below.refl _ _) hg⟩
end Go.Proofs.YtgkamgijnhbcbaaGreatDoor
