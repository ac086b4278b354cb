/- Lists of numbers of one's own: delete, copy, insert. -/
import Derived.Test.YtomnkglnbmnmpaaGreatDoorClone
import Derived.Test.YtomnkglnbmnmpaaGreatDoorProg
import Derived.WalkKit
import Derived.WalkSpells
import Derived.WalkLawsBesides
import Derived.Lib.SliceRun
import Derived.Shelf.Spec.SlicesInsertGrow
import Derived.Lib.EndianMore
import Derived.Test.YtomnkglnbmnmpaaGreatDoorClones
import Derived.OwnWalk
namespace Go.Proofs.YtomnkglnbmnmpaaGreatDoor
open Go.RowKit Go.Vt Go.Proofs
set_option maxRecDepth 100000 in
theorem same_child (w : World) (z child : Int) (c : Nat) (hc : w.cell? ⟨c, 0, none⟩ = some (.int .i64 child)) : Calls Tryz.prog 107 #[.int .i64 z, .pointer (some ⟨c, 0, none⟩)] w fun e w' => (∃ b, e = .returned (.bool b)) ∧ w' = w := by
  go_enter Tryz.func107, Tryz.ntmps107
  go_wp2_with fail
  go_ret
  exact ⟨⟨_, rfl⟩, rfl⟩
set_option maxRecDepth 100000 in
theorem index_func (w : World) (a : Option Addr) (g len cap c : Nat) (child : Int) (ha : 0 < len → a = some ⟨g, 0, none⟩) (hi : ∀ j, j < len → ∃ z, w.cell? ⟨g, j, none⟩ = some (.int .i64 z)) (hl : len ≤ 1099511627776) (hc : w.cell? ⟨c, 0, none⟩ = some (.int .i64 child)) :
    Calls Tryz.prog 131 #[.slice a len cap, .func (.func 107) #[] #[.pointer (some ⟨c, 0, none⟩)]] w fun e w' => (∃ i : Int, e = .returned (.int .i64 i) ∧ -1 ≤ i ∧ i < len) ∧ w' = w := by
  have H := Lib.hid hi
  have HA := Lib.hid ha
  have HC := Lib.hid hc
  clear hi ha hc
  go_enter Tryz.func131, Tryz.ntmps131
  go_wp2_with fail
  go_loopw [8] (fun x8 wr => ∃ i : Nat, i ≤ len ∧ x8 = .int .i64 i ∧ wr = w) (fun x8 _ => len - (intOf x8).toNat)
  case atStart => exact ⟨0, by omega, rfl, rfl⟩
  case round =>
    obtain ⟨i, hi, rfl, hwr⟩ := hrel
    by_cases hlt : i < len
    case pos =>
      obtain rfl := HA.out (by omega)
      obtain ⟨z, hz⟩ := H.out i hlt
      have hzr : wr.cell? ⟨g, i, none⟩ = some (.int .i64 z) := by rw [hwr]; exact hz
      have hcr : wr.cell? ⟨c, 0, none⟩ = some (.int .i64 child) := by rw [hwr]; exact HC.out
      have hs := same_child wr z child c hcr
      have HS := Lib.hid hs
      have HW := Lib.hid hwr
      clear hs hwr hz
      go_wp2_with fail
      refine HS.out.mono ?_
      rintro e w2 ⟨⟨b, rfl⟩, hw2⟩
      cases b with
      | true =>
        go_wp2_with fail
        go_ret
        exact ⟨⟨i, rfl, by omega, by omega⟩, HW.out⟩
      | false =>
        go_wp2_with fail
        exact ⟨⟨i + 1, by omega, by go_num, HW.out⟩, by simp [intOf]; omega⟩
    case neg =>
      obtain rfl : i = len := by omega
      have HW := Lib.hid hwr
      clear hwr
      go_wp2_with fail
      go_ret
      exact ⟨⟨-1, rfl, by omega, by omega⟩, HW.out⟩
/-- Nothing but block g is other than it was. -/
structure OnlyAt (g : Nat) (w w' : World) : Prop where
  os : w'.os = w.os
  tape : w'.tape = w.tape
  output : w'.output = w.output
  size : w'.heap.size = w.heap.size
  block : ∀ k, k ≠ g → w'.heap[k]? = w.heap[k]?
theorem OnlyAt.refl (g : Nat) (w : World) : OnlyAt g w w := ⟨rfl, rfl, rfl, rfl, fun _ _ => rfl⟩
theorem OnlyAt.set {g j : Nat} {w w' : World} (h : OnlyAt g w w') (u : Value) : OnlyAt g w (w'.setCell ⟨g, j, none⟩ u) :=
  ⟨h.os, h.tape, h.output, by rw [← h.size]; simp only [World.setCell, Array.size_modify], fun k hk => (Below.heap_setCell _ _ _ _ hk).trans (h.block k hk)⟩
theorem OnlyAt.sets {g : Nat} {w : World} : ∀ (vs : List Value) (o : Nat) {w' : World}, OnlyAt g w w' → OnlyAt g w (w'.setCells g o vs)
  | [], _, _, h => h
  | v :: vs, o, _, h => OnlyAt.sets vs (o + 1) (h.set v)
theorem OnlyAt.cell {g c : Nat} {w w' : World} (h : OnlyAt g w w') (hc : c ≠ g) {j : Nat} {x : Value} (hx : w.cell? ⟨c, j, none⟩ = some x) : w'.cell? ⟨c, j, none⟩ = some x := (World.cell?_of_block (w := w) (h.block c hc)).trans hx
theorem OnlyAt.below {g B : Nat} {w0 w w' : World} (h : OnlyAt g w w') (hb : Below B w0 w) (hg : B ≤ g) : Below B w0 w' :=
  ⟨h.os.trans hb.os, h.tape.trans hb.tape, h.output.trans hb.output, by rw [h.size]; exact hb.size, fun k hk => (h.block k (by omega)).trans (hb.block k hk)⟩
theorem IntsAt.sets {E g n cap : Nat} : ∀ (vs : List Value) (o : Nat) {w : World}, (∀ v ∈ vs, ∃ z, v = .int .i64 z ∧ IntKind.i64.wrap z = z) → IntsAt w E g n cap → IntsAt (w.setCells g o vs) E g n cap
  | [], _, _, _, h => h
  | v :: vs, o, _, hv, h => by
    obtain ⟨z, rfl, hz⟩ := hv v (by simp)
    exact IntsAt.sets vs (o + 1) (fun x hx => hv x (by simp [hx])) (h.set o hz)
set_option maxRecDepth 100000 in
theorem delete_nil (w : World) (c0 c : Nat) (child : Int) (hc : w.cell? ⟨c, 0, none⟩ = some (.int .i64 child)) :
    Calls Tryz.prog 105 #[.slice none 0 c0, .func (.func 107) #[] #[.pointer (some ⟨c, 0, none⟩)]] w fun e w' => e = .returned (.slice none 0 c0) ∧ w' = w := by
  have hi := index_func w none 0 0 c0 c child (by omega) (by omega) (by omega) hc
  have HI := Lib.hid hi
  clear hi hc
  go_enter Tryz.func105, Tryz.ntmps105
  go_wp2_with fail
  refine HI.out.mono ?_
  rintro e w1 ⟨⟨i, rfl, h1, h2⟩, hw⟩
  obtain rfl := hw.symm
  obtain rfl : i = -1 := by omega
  go_wp2_with fail
  go_ret
  exact ⟨rfl, by first | trivial | rfl⟩
set_option maxRecDepth 100000 in
set_option maxHeartbeats 1000000 in
theorem delete_own (w : World) (g len cap c : Nat) (child : Int) (hg : IntsAt w 3 g len cap) (hgc : c ≠ g) (hl : len ≤ 1099511627776) (hc : w.cell? ⟨c, 0, none⟩ = some (.int .i64 child)) :
    Calls Tryz.prog 105 #[.slice (some ⟨g, 0, none⟩) len cap, .func (.func 107) #[] #[.pointer (some ⟨c, 0, none⟩)]] w fun e w' => ∃ m, e = .returned (.slice (some ⟨g, 0, none⟩) m cap) ∧ m ≤ len ∧ IntsAt w' 3 g m cap ∧ OnlyAt g w w' := by
  have hi := index_func w (some ⟨g, 0, none⟩) g len cap c child (fun _ => rfl) (fun j hj => by obtain ⟨z, h, _⟩ := hg.cell hj; exact ⟨z, h⟩) hl hc
  have HI := Lib.hid hi
  have HC := Lib.hid hc
  have HG := Lib.hid hg
  clear hi hc hg
  go_enter Tryz.func105, Tryz.ntmps105
  go_wp2_with fail
  refine HI.out.mono ?_
  rintro e w1 ⟨⟨i, rfl, h1, h2⟩, hw⟩
  obtain rfl := hw.symm
  by_cases hm : i = -1
  case pos =>
    subst hm
    go_wp2_with fail
    go_ret
    exact ⟨len, rfl, Nat.le_refl _, HG.out, OnlyAt.refl _ _⟩
  case neg =>
    obtain ⟨n, rfl⟩ : ∃ n : Nat, i = n := ⟨i.toNat, by omega⟩
    have hm1 : ((n : Int) == -1) = false := by first | (simp; done) | (simp; omega)
    have hm2 : ¬ ((n : Int) = -1) := hm
    go_wp2_with fail
    go_loopw [5, 6] (fun x5 x6 wr => ∃ i j : Nat, x5 = .int .i64 i ∧ x6 = .int .i64 j ∧ i < j ∧ j ≤ len ∧ IntsAt wr 3 g len cap ∧ OnlyAt g w wr) (fun _ x6 _ => len - (intOf x6).toNat)
    case atStart => exact ⟨n, n + 1, rfl, by go_num, by omega, by omega, HG.out, OnlyAt.refl _ _⟩
    case round =>
      obtain ⟨i, j, rfl, rfl, hij, hj, hI, hO⟩ := hrel
      by_cases hlt : j < len
      case pos =>
        obtain ⟨z, hz, hzw⟩ := hI.cell hlt
        obtain ⟨y, hy, _⟩ := hI.cell (show i < len by omega)
        have hf := hI.frozen i
        have hs := same_child wr z child c (hO.cell hgc HC.out)
        have HS := Lib.hid hs
        have HK := Lib.hid (And.intro hI hO)
        clear hs hI hO
        go_wp2_with fail
        refine HS.out.mono ?_
        rintro e w2 ⟨⟨b, rfl⟩, hw2⟩
        obtain rfl := hw2.symm
        cases b with
        | true =>
          go_wp2_with fail
          exact ⟨⟨i, j + 1, rfl, by go_num, by omega, by omega, HK.out.1, HK.out.2⟩, by simp [intOf]; omega⟩
        | false =>
          go_wp2_with fail
          exact ⟨⟨i + 1, j + 1, by go_num, by go_num, by omega, by omega, HK.out.1.set i hzw, HK.out.2.set _⟩, by simp [intOf]; omega⟩
      case neg =>
        obtain rfl : j = len := by omega
        have HK := Lib.hid (And.intro hI hO)
        have hcl := fun (c0 : Nat) => Lib.run_clear_slice (P := Tryz.prog) wr 70 3 0 (.int .i64 0) Tryz.underlying70 (fun W => by kernel_rfl) rfl rfl g i (j - i) c0 (by omega) (fun k hk => by obtain ⟨z, h, _⟩ := HK.out.1.cell (show i + k < j by omega); rw [h]; rfl) (fun k _ => HK.out.1.frozen (i + k))
        have hcap : j ≤ cap := HK.out.1.cap_le.1
        have hci : i < cap := by omega
        have hci2 : ¬ cap = i := by omega
        have hci3 : ¬ i = cap := by omega
        have hci4 : i ≤ cap := by omega
        clear hI hO
        go_wp2_with fail
        go_ret
        refine ⟨i, rfl, by omega, (IntsAt.sets _ _ ?_ HK.out.1).le (by omega), HK.out.2.sets _ _⟩
        intro v hv
        obtain rfl := List.eq_of_mem_replicate hv
        exact ⟨0, rfl, by decide⟩
end Go.Proofs.YtomnkglnbmnmpaaGreatDoor
namespace Go.Proofs.YtomnkglnbmnmpaaGreatDoor
open Go.RowKit Go.Vt Go.Proofs
/-- The numbers of slices.Insert's closure. -/
def insRen : Go.Shelf.Ren := ⟨fun
  | 21 => 101
  | 27 => 128
  | 28 => 129
  | 35 => 163
  | 39 => 202
  | n => n, fun
  | 22 => 70
  | n => n, fun n => n⟩
theorem insF21 : Tryz.prog.funcs[insRen.f 21]? = some (Body2.n21 insRen) := by kernel_rfl
theorem insF27 : Tryz.prog.funcs[insRen.f 27]? = some (Body2.n27 insRen) := by kernel_rfl
theorem insF28 : Tryz.prog.funcs[insRen.f 28]? = some (Body2.n28 insRen) := by kernel_rfl
theorem insF35 : Tryz.prog.funcs[insRen.f 35]? = some (Body2.n35 insRen) := by kernel_rfl
theorem insF39 : Tryz.prog.funcs[insRen.f 39]? = some (Body2.n39 insRen) := by kernel_rfl
theorem insLays : Lays2.n21 Tryz.prog insRen where
  mixed := by kernel_rfl
  f21 := insF21
  f27 := insF27
  f28 := insF28
  f35 := insF35
  f39 := insF39
  t0 := by kernel_rfl
  a0 := fun _ => by kernel_rfl
  z0 := fun _ => by kernel_rfl
  v0 := fun _ => by kernel_rfl
  t3 := by kernel_rfl
  a3 := fun _ => by kernel_rfl
  z3 := fun _ => by kernel_rfl
  v3 := fun _ => by kernel_rfl
  t4 := by kernel_rfl
  a4 := fun _ => by kernel_rfl
  z4 := fun _ => by kernel_rfl
  v4 := fun _ => by kernel_rfl
  t22 := by kernel_rfl
  a22 := fun _ => by kernel_rfl
  z22 := fun _ => by kernel_rfl
  v22 := fun _ => by kernel_rfl
  i3 := by kernel_rfl
end Go.Proofs.YtomnkglnbmnmpaaGreatDoor
namespace Go.Proofs.YtomnkglnbmnmpaaGreatDoor
open Go.RowKit Go.Vt Go.Proofs
theorem add_at (b o m : Nat) : (⟨b, o, none⟩ : Addr).add m = ⟨b, o + m, none⟩ := by unfold Addr.add; split <;> simp_all
theorem IntsAt.drew {w : World} {E g n cap : Nat} (h : IntsAt w E g n cap) : IntsAt w.drew E g n cap := h
theorem one_int {v : Value} {z : Int} (h : v ∈ [Value.int .i64 z]) (hz : IntKind.i64.wrap z = z) : ∃ z, v = .int .i64 z ∧ IntKind.i64.wrap z = z := ⟨z, List.mem_singleton.1 h, hz⟩
theorem ints_one {cs : List Value} (h : ∀ v ∈ cs, ∃ z, v = .int .i64 z ∧ IntKind.i64.wrap z = z) : ∀ v ∈ cs, v.oneCell' = true := fun v hv => by
  obtain ⟨z, rfl, _⟩ := h v hv
  rfl
theorem zero_ints (n : Nat) : ∀ j, j < n → (Builtin.zeroCells (Value.int .i64 0).cells n)[j]? = some (Value.int .i64 0) := fun j hj => by
  have hs : (Builtin.zeroCells (Value.int .i64 0).cells n).size = n := by rw [size_zeroCells]; simp [Value.cells]
  rw [Array.getElem?_eq_getElem (by omega)]
  simp [Builtin.zeroCells, Value.cells, Nat.mod_one]
/-- A new block of numbers, then zeros. -/
theorem ints_new (w : World) (cs : List Value) (cap : Nat) (hc : cs.length ≤ cap) (hm : cap ≤ maxLen) (hi : ∀ v ∈ cs, ∃ z, v = .int .i64 z ∧ IntKind.i64.wrap z = z) :
    IntsAt (w.alloc (.cells (cs.toArray ++ Builtin.zeroCells (Value.int .i64 0).cells (cap - cs.length)) 3)) 3 w.heap.size cs.length cap := by
  have hs : (cs.toArray ++ Builtin.zeroCells (Value.int .i64 0).cells (cap - cs.length)).size = cap := by
    rw [Array.size_append, size_zeroCells]; simp [Value.cells]; omega
  have := IntsAt.new w (cs.toArray ++ Builtin.zeroCells (Value.int .i64 0).cells (cap - cs.length)) 3 cs.length (by omega) (by omega) (fun j hj => by
    obtain ⟨z, h1, h2⟩ := hi cs[j] (List.getElem_mem hj)
    exact ⟨z, by rw [Array.getElem?_append_left (by simpa using hj), List.getElem?_toArray, List.getElem?_eq_getElem hj, h1], h2⟩)
  rwa [hs] at this
/-- A number is put into a list of numbers of one's own: the first len + 1 cells of a block are numbers; no other block turns. -/
theorem insert_kids (w : World) (v : Value) (B len cap q i : Nat) (z : Int) (hv : (v = .slice none 0 0 ∧ len = 0 ∧ cap = 0) ∨ ∃ g, v = .slice (some ⟨g, 0, none⟩) len cap ∧ B ≤ g ∧ g ≠ q ∧ IntsAt w 3 g len cap) (hi : i ≤ len) (hB : B ≤ w.heap.size)
    (hq : w.heap[q]? = some (.cells #[.int .i64 z] 3 (0, 0))) (hz : IntKind.i64.wrap z = z) (hl : len ≤ 1099511627776) :
    Calls Tryz.prog 101 #[v, .int .i64 i, .slice (some ⟨q, 0, none⟩) 1 1] w fun e w' => ∃ g c, e = .returned (.slice (some ⟨g, 0, none⟩) (len + 1) c) ∧ B ≤ g ∧ IntsAt w' 3 g (len + 1) c ∧ Below B w w' ∧ (g < w.heap.size → v = .slice (some ⟨g, 0, none⟩) len cap) ∧ (∀ k, k < w.heap.size → v ≠ .slice (some ⟨k, 0, none⟩) len cap → w'.heap[k]? = w.heap[k]?) ∧ ∀ k n' c', IntsAt w 3 k n' c' → IntsAt w' 3 k n' c' := by
  have hvs : ∀ j u, [Value.int .i64 z][j]? = some u → w.cell? ⟨q, 0 + j, none⟩ = some u := fun j u hu => by
    rw [Nat.zero_add, cell_of_row _ _ j _ _ _ hq]; simpa using hu
  have hqi : ∀ v ∈ [Value.int .i64 z], ∃ z, v = .int .i64 z ∧ IntKind.i64.wrap z = z := fun v hv => one_int hv hz
  have h1v : ∀ v ∈ [Value.int .i64 z], v.oneCell' = true := ints_one hqi
  rcases hv with ⟨rfl, rfl, rfl⟩ | ⟨g, rfl, hg, hgq, hI⟩
  · obtain rfl : i = 0 := by omega
    refine (Any2.slices_Insert_int_end_grow insLays none 0 0 q 0 1 1 [] [.int .i64 z] w (by omega) (by omega) (by omega) (by omega) rfl rfl (fun _ => rfl) (fun a h => by cases h) hvs h1v).mono ?_
    rintro e w' ⟨rfl, rfl⟩
    have hn := ints_new w.drew [.int .i64 z] (grownCap w (0 + 1) 0 3) (grownCap_ge _ _ _ _) (grownCap_le_maxLen _ _ _ _ (by decide)) hqi
    refine ⟨w.heap.size, _, rfl, hB, hn, (below_drew (Below.refl B w)).alloc hB _, fun h => by omega, fun k hk _ => Below.heap_alloc w.drew _ _ hk, fun k _ _ hi => hi.keep (Below.heap_alloc w.drew _ _ hi.lt)⟩
  · obtain ⟨cs, c1, c2, c3⟩ := hI.list
    have hlt := hI.lt
    have hcap := hI.cap_le
    have c2' : ∀ j v, cs[j]? = some v → w.cell? ⟨g, 0 + j, none⟩ = some v := fun j v h => by rw [Nat.zero_add]; exact c2 j v h
    have hkeep : ∀ (vs : List Value) (o : Nat) (W : World) (k : Nat), k ≠ g → (W.setCells g o vs).heap[k]? = W.heap[k]? := fun vs o W k hk => setCells_far g k hk vs o W
    by_cases he : i = len
    · subst he
      by_cases hr : cap < i + 1
      · refine (Any2.slices_Insert_int_end_grow insLays (some ⟨g, 0, none⟩) i cap q 0 1 1 cs [.int .i64 z] w (by omega) (by omega) hr (by omega) c1 rfl (fun h => by cases h) (fun a h j v hj => by injection h with h; subst h; rw [add_at]; exact c2' j v hj) hvs h1v).mono ?_
        rintro e w' ⟨rfl, rfl⟩
        have hn := ints_new w.drew (cs ++ [.int .i64 z]) (grownCap w (i + 1) cap 3) (by rw [List.length_append, c1]; exact grownCap_ge _ _ _ _) (grownCap_le_maxLen _ _ _ _ (by simp only [maxLen]; omega)) (fun v hv => by rcases List.mem_append.1 hv with h | h; exact c3 v h; exact hqi v h)
        rw [List.length_append, c1] at hn
        refine ⟨w.heap.size, _, rfl, hB, hn, (below_drew (Below.refl B w)).alloc hB _, fun h => by omega, fun k hk _ => Below.heap_alloc w.drew _ _ hk, fun k _ _ hi => hi.keep (Below.heap_alloc w.drew _ _ hi.lt)⟩
      · refine (Any2.slices_Insert_int_end_room insLays g 0 i cap q 0 1 1 [.int .i64 z] w (by omega) (by omega) (by have := hcap.2; simp only [maxLen] at this; omega) rfl (fun j hj => by obtain ⟨x, h⟩ := hI.some_cell (show 0 + i + j < cap by omega); rw [h]; rfl) (fun j _ => hI.frozen _) hvs h1v).mono ?_
        rintro e w' ⟨rfl, rfl⟩
        have hn := IntsAt.cover [.int .i64 z] i (0 + i) w hqi hI (by omega) (by simp; omega)
        rw [show max i (0 + i + [Value.int .i64 z].length) = i + 1 from by simp] at hn
        refine ⟨g, cap, rfl, hg, hn, Lib.below_setCells_w hg _ _ _, fun _ => rfl, fun k _ hk => hkeep _ _ _ _ (fun e => hk (by rw [e])), fun k _ _ hi => by
          by_cases e : k = g
          · subst e; exact IntsAt.sets _ _ hqi hi
          · exact hi.keep (hkeep _ _ _ _ e)⟩
    · by_cases hr : cap < len + 1
      · refine (Any2.slices_Insert_int_grow insLays g 0 len cap i q 0 1 1 cs [.int .i64 z] w (by omega) (by omega) (by omega) hr (by omega) c1 rfl c2' hvs (ints_one c3) h1v).mono ?_
        rintro e w' ⟨rfl, rfl⟩
        have hl1 : (cs.take i).length = i := by rw [List.length_take, c1]; omega
        have hge : len + 1 ≤ grownCap w (len + 1) cap 3 := grownCap_ge _ _ _ _
        have hs : ((cs.take i).toArray ++ Builtin.zeroCells (Value.int .i64 0).cells (len + 1 - i) ++ Builtin.zeroCells (Value.int .i64 0).cells (grownCap w (len + 1) cap 3 - (len + 1))).size = grownCap w (len + 1) cap 3 := by
          rw [Array.size_append, Array.size_append, size_zeroCells, size_zeroCells]; simp [Value.cells, c1]; omega
        have h0 := IntsAt.new w ((cs.take i).toArray ++ Builtin.zeroCells (Value.int .i64 0).cells (len + 1 - i) ++ Builtin.zeroCells (Value.int .i64 0).cells (grownCap w (len + 1) cap 3 - (len + 1))) 3 i (by rw [hs]; omega) (by rw [hs]; exact grownCap_le_maxLen _ _ _ _ (by simp only [maxLen]; omega)) (fun j hj => by
          obtain ⟨z, h1, h2⟩ := c3 (cs.take i)[j] (List.mem_of_mem_take (List.getElem_mem (by omega)))
          refine ⟨z, ?_, h2⟩
          rw [Array.getElem?_append_left (by rw [Array.size_append]; simp [c1]; omega), Array.getElem?_append_left (by simp [c1]; omega), List.getElem?_toArray, List.getElem?_eq_getElem (by omega), h1])
        rw [hs] at h0
        have h1 := IntsAt.cover [.int .i64 z] i i _ hqi (IntsAt.drew h0) (Nat.le_refl _) (by simp; omega)
        rw [show max i (i + [Value.int .i64 z].length) = i + 1 from by simp] at h1
        have h2 := IntsAt.cover (cs.drop i) (i + 1) (i + 1) _ (fun v hv => c3 v (List.mem_of_mem_drop hv)) (IntsAt.drew h1) (Nat.le_refl _) (by rw [List.length_drop, c1]; omega)
        rw [List.length_drop, c1, show max (i + 1) (i + 1 + (len - i)) = len + 1 from by omega] at h2
        have kp : ∀ k, k < w.heap.size → _ := fun k hk => (setCells_far w.heap.size k (by omega) (cs.drop i) (i + 1) (((w.alloc (.cells ((cs.take i).toArray ++ Builtin.zeroCells (Value.int .i64 0).cells (len + 1 - i) ++ Builtin.zeroCells (Value.int .i64 0).cells (grownCap w (len + 1) cap 3 - (len + 1))) 3)).drew.setCells w.heap.size i [.int .i64 z]).drew)).trans ((setCells_far _ k (by omega) _ _ (World.drew _)).trans (Below.heap_alloc w _ _ hk))
        refine ⟨w.heap.size, _, rfl, hB, h2, ?_, fun h => by omega, fun k hk _ => kp k hk, fun k _ _ hi => hi.keep (kp k hi.lt)⟩
        exact (below_drew ((below_drew ((Below.refl B w).alloc hB _)).trans (Lib.below_setCells_w hB _ _ _))).trans (Lib.below_setCells_w hB _ _ _)
      · refine (Any2.slices_Insert_int_shift insLays g 0 len cap i q 0 1 1 cs [.int .i64 z] w (by omega) (by omega) (by omega) (by have := hcap.2; simp only [maxLen] at this; omega) (fun e => hgq e.symm) c1 rfl c2' (fun j hj => by obtain ⟨x, h⟩ := hI.some_cell (show 0 + j < cap by omega); rw [h]; rfl) (fun j _ => hI.frozen _) hvs (ints_one c3) h1v
          3 3 1 cap (by simp [World.shape?, hq]) (by obtain ⟨cur, h1, h2, h3, h4, h5⟩ := hI; simp [World.shape?, h1, h4]) (by omega) (by simp [World.frozen?, hq]) (by simp [World.frozen?, hq])).mono ?_
        rintro e w' ⟨rfl, rfl⟩
        have hn1 := IntsAt.cover (cs.drop i) len (0 + (i + 1)) w.drew (fun v hv => c3 v (List.mem_of_mem_drop hv)) hI (by omega) (by rw [List.length_drop, c1]; omega)
        rw [List.length_drop, c1, show max len (0 + (i + 1) + (len - i)) = len + 1 from by omega] at hn1
        have hn2 := IntsAt.cover [.int .i64 z] (len + 1) (0 + i) _ hqi hn1 (by omega) (by simp; omega)
        rw [show max (len + 1) (0 + i + [Value.int .i64 z].length) = len + 1 from by simp; omega] at hn2
        exact ⟨g, cap, rfl, hg, hn2, ((below_drew (Below.refl B w)).trans (Lib.below_setCells_w hg _ _ w.drew)).trans (Lib.below_setCells_w hg _ _ _), fun _ => rfl, fun k _ hk => (hkeep _ _ _ _ (fun e => hk (by rw [e]))).trans (hkeep _ _ w.drew _ (fun e => hk (by rw [e]))), fun k _ _ hi => by
          by_cases e : k = g
          · subst e; exact IntsAt.sets _ _ hqi (IntsAt.sets _ _ (fun v hv => c3 v (List.mem_of_mem_drop hv)) (IntsAt.drew hi))
          · exact hi.keep ((hkeep _ _ _ _ e).trans (hkeep _ _ w.drew _ e))⟩
end Go.Proofs.YtomnkglnbmnmpaaGreatDoor
namespace Go.Proofs.YtomnkglnbmnmpaaGreatDoor
open Go.RowKit Go.Vt Go.Proofs
set_option maxRecDepth 100000 in
/-- A copy of a list of numbers: a block of numbers of one's own. -/
theorem clone_kids (F : Nat → Prop) (w : World) (v : Value) (len cap : Nat) (rows : List (List C)) (hr : Rd F w (.sl 1 len cap rows) v) (ht : HtRows tab [.int .i64] rows) (hlen : len ≤ 1099511627776) :
    Calls Tryz.prog 106 #[v] w fun e w' => (∃ v', e = .returned v' ∧ ((v' = .slice none 0 0 ∧ len = 0) ∨ ∃ g c, v' = .slice (some ⟨g, 0, none⟩) len c ∧ w.heap.size ≤ g ∧ IntsAt w' 3 g len c)) ∧ Below w.heap.size w w' := by
  have hq : ∀ (W : World) (a : Option Addr) (n c n1 c1 : Nat), (binOp .eql 70 (.slice a n c) (.slice none n1 c1)).run Tryz.prog W = .ok (.bool a.isNone) W := fun W a n c n1 c1 => Lib.run_eql_slice_nil W _ _ a n c n1 c1 Tryz.underlying70
  obtain ⟨i0, hi0, hz0, hz1, hz2⟩ := info_parts zinfo3
  obtain ⟨a, rfl, h2, h3⟩ : ∃ a, v = .slice a len cap ∧ len ≤ rows.length ∧ rows.length ≤ cap := by simp only [Rd] at hr; obtain ⟨a, h1, h2, h3, _⟩ := hr; exact ⟨a, h1, h2, h3⟩
  cases a with
  | none =>
    have hq1 := fun W => hq W none len cap 0 0
    have hl0 : len = 0 := by
      simp only [Rd] at hr
      obtain ⟨a, h1, _, _, h4⟩ := hr
      rcases h4 with h4 | ⟨_, _, h4, _⟩
      · rw [h4] at h2; simpa using h2
      · rw [h4] at h1; cases h1
    clear hq
    go_enter Tryz.func106, Tryz.ntmps106
    subst hl0
    go_wp2_with fail
    go_ret
    first | exact ⟨⟨_, rfl, .inl ⟨rfl, rfl⟩⟩, Below.refl _ _⟩ | exact ⟨⟨_, rfl, .inl rfl⟩, Below.refl _ _⟩
  | some ad =>
    have hq1 := fun W => hq W (some ad) len cap 0 0
    clear hq
    have own0 : (w.alloc (Obj.cells #[] 3)).ownsRow w.heap.size 3 1 (.slice (some ⟨w.heap.size, 0, none⟩) 0 0) 0 [] := ⟨by simp, .inr ⟨w.heap.size, 0, #[], rfl, Nat.le_refl _, heap_alloc_new w _, Nat.le_refl _, by decide, by simp, by simp⟩⟩
    obtain ⟨news, nf, nl, nc, n1⟩ := Rd.news hr (Obj.cells #[] 3)
    go_enter Tryz.func106, Tryz.ntmps106
    go_wp2_with (at_builtin; go_must (refine wpList_append_own_at _ rfl _ _ 70 rfl w.heap.size 3 i0 _ 1 8 Tryz.underlying70 hi0 hz0 hz1 hz2 rfl (by decide) (.slice (some ⟨w.heap.size, 0, none⟩) 0 0) 0 [] rfl own0 ad len cap news rfl nl nc n1 (by simp [maxLen]; omega) (by omega) (by simp) ?_; intro v' w' ho hgr _ _))
    go_ret
    rw [Nat.zero_add, List.nil_append] at ho
    have hx : ∀ j, j < len → ∃ z, news[j]? = some (.int .i64 z) ∧ IntKind.i64.wrap z = z := fun j hj => ints_of_flat (rows.take len) news nf (HtRows.take len rows ht) j (by simp; omega)
    refine ⟨⟨_, rfl, ?_⟩, ((Below.refl _ _).alloc (Nat.le_refl _) _).grown hgr (by simp) (fun k e => by cases e; exact Nat.le_refl _)⟩
    rcases IntsAt.of_own ho hx with ⟨rfl, rfl⟩ | ⟨g, c, rfl, hb, hi⟩
    · exact .inl ⟨rfl, by first | trivial | rfl⟩
    · exact .inr ⟨g, c, rfl, hb, hi⟩
/-- What is left of a list of numbers of one's own. -/
theorem delete_kids (w : World) (v : Value) (B len c : Nat) (child : Int) (hB : B ≤ w.heap.size) (hv : (v = .slice none 0 0 ∧ len = 0) ∨ ∃ g c0, v = .slice (some ⟨g, 0, none⟩) len c0 ∧ B ≤ g ∧ IntsAt w 3 g len c0) (hcB : c < B) (hl : len ≤ 1099511627776) (hc : w.cell? ⟨c, 0, none⟩ = some (.int .i64 child)) :
    Calls Tryz.prog 105 #[v, .func (.func 107) #[] #[.pointer (some ⟨c, 0, none⟩)]] w fun e w' => ∃ a m c1, e = .returned (.slice a m c1) ∧ m ≤ len ∧ KidV (Nw B w') w' 3 (.slice a m c1) m ∧ Below B w w' := by
  rcases hv with ⟨rfl, rfl⟩ | ⟨g, c0, rfl, hg, hi⟩
  · refine (delete_nil w 0 c child hc).mono ?_
    rintro e w' ⟨rfl, rfl⟩
    exact ⟨none, 0, 0, rfl, Nat.le_refl _, .inl ⟨rfl, rfl⟩, Below.refl _ _⟩
  · refine (delete_own w g len c0 c child hi (by omega) hl hc).mono ?_
    rintro e w' ⟨m, rfl, hm, hi', hO⟩
    have hlt := hi'.lt
    obtain ⟨cur, hcur, _⟩ := id hi'
    exact ⟨_, m, c0, rfl, hm, .inr ⟨g, c0, rfl, ⟨hg, hlt, _, _, hcur⟩, hi'⟩, hO.below (Below.refl _ _) hg⟩
end Go.Proofs.YtomnkglnbmnmpaaGreatDoor
