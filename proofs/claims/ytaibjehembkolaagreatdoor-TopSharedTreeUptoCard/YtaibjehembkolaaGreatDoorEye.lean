/- An eye of the law: what it has noted, and how it is kept. -/
import Derived.Test.YtaibjehembkolaaGreatDoorCore
import Derived.OwnWalk
import Derived.OneCell
namespace Go.Vt
open Go.RowKit

/-- Nothing that was there has turned but the blocks of S. -/
structure Fr (S : Nat → Prop) (w w' : World) : Prop where
  os : w'.os = w.os
  tape : w'.tape = w.tape
  output : w'.output = w.output
  size : w.heap.size ≤ w'.heap.size
  block : ∀ k, k < w.heap.size → ¬ S k → w'.heap[k]? = w.heap[k]?
theorem Fr.refl (S : Nat → Prop) (w : World) : Fr S w w := ⟨rfl, rfl, rfl, Nat.le_refl _, fun _ _ _ => rfl⟩
theorem Fr.trans {S : Nat → Prop} {a b c : World} (h : Fr S a b) (k : Fr S b c) : Fr S a c :=
  ⟨k.os.trans h.os, k.tape.trans h.tape, k.output.trans h.output, Nat.le_trans h.size k.size, fun i hi hs => (k.block i (Nat.lt_of_lt_of_le hi h.size) hs).trans (h.block i hi hs)⟩
/-- The second step may turn what is new behind the first. -/
theorem Fr.trans' {S S' : Nat → Prop} {a b c : World} (h : Fr S a b) (k : Fr S' b c) (hs : ∀ i, i < a.heap.size → S' i → S i) : Fr S a c :=
  ⟨k.os.trans h.os, k.tape.trans h.tape, k.output.trans h.output, Nat.le_trans h.size k.size, fun i hi hn => (k.block i (Nat.lt_of_lt_of_le hi h.size) (fun hh => hn (hs i hi hh))).trans (h.block i hi hn)⟩
theorem Fr.mono {S S' : Nat → Prop} {a b : World} (h : Fr S a b) (hs : ∀ i, i < a.heap.size → S i → S' i) : Fr S' a b :=
  ⟨h.os, h.tape, h.output, h.size, fun i hi hn => h.block i hi (fun hh => hn (hs i hi hh))⟩
theorem Fr.drew {S : Nat → Prop} {a b : World} (h : Fr S a b) : Fr S a b.drew := ⟨h.os, h.tape, h.output, h.size, h.block⟩
theorem Fr.alloc {S : Nat → Prop} {a b : World} (h : Fr S a b) (o : Obj) : Fr S a (b.alloc o) :=
  h.trans ⟨rfl, rfl, rfl, by simp, fun k hk _ => Below.heap_alloc _ _ _ hk⟩
theorem Fr.setCell {S : Nat → Prop} {a b : World} (h : Fr S a b) {p : Addr} (hp : p.block < a.heap.size → S p.block) (u : Value) : Fr S a (b.setCell p u) :=
  h.trans' (S' := fun k => k = p.block) ⟨rfl, rfl, rfl, by simp [World.setCell], fun k _ hk => Below.heap_setCell _ _ _ _ hk⟩ (fun i hi e => e ▸ hp (e ▸ hi))
theorem Fr.grown {S : Nat → Prop} {a b c : World} {row : Option Nat} (h : Fr S a b) (hg : b.grownBy c row) (hr : ∀ k, row = some k → k < a.heap.size → S k) : Fr S a c :=
  h.trans' (S' := fun k => row = some k) ⟨hg.os, hg.tape, hg.output, hg.size, fun k hk hn => hg.block k hk (fun e => hn e.symm)⟩ (fun i hi e => hr i e hi)
theorem Fr.of_below {a b : World} (h : Below a.heap.size a b) (S : Nat → Prop) : Fr S a b := ⟨h.os, h.tape, h.output, h.size, fun k hk _ => h.block k hk⟩
theorem Fr.below {a b : World} {S : Nat → Prop} (h : Fr S a b) {B : Nat} (hB : B ≤ a.heap.size) (hs : ∀ k, k < B → ¬ S k) : Below B a b := ⟨h.os, h.tape, h.output, h.size, fun k hk => h.block k (by omega) (hs k hk)⟩
theorem Fr.cell {S : Nat → Prop} {a b : World} (h : Fr S a b) {p : Addr} {v : Value} (hv : a.cell? p = some v) (hs : ¬ S p.block) : b.cell? p = some v := by
  rw [World.cell?_of_block (w := a) (h.block p.block (World.block_lt_of_cell? a p hv) hs)]; exact hv

/-- An eye at places oe .. oe + 4 of block be: its lists are its own, from block B on. -/
structure EyeV (e1 e2 : Nat) (w : World) (be oe B : Nat) (nv sv : Value) (ns : List Int) (ss : List ByteArray) (mk : Bool) (at_ : Int) (rm : Bool) : Prop where
  blk : ∃ c e, w.heap[be]? = some (.cells c e (0, 0)) ∧ c[oe]? = some nv ∧ c[oe + 1]? = some sv ∧ c[oe + 2]? = some (.bool mk) ∧ c[oe + 3]? = some (.int .i64 at_) ∧ c[oe + 4]? = some (.bool rm)
  rowN : w.ownsRow B e1 1 nv ns.length (ns.map (Value.int .i64))
  rowS : w.ownsRow B e2 1 sv ss.length (ss.map Value.string)
  lt : be < B
def Eye (e1 e2 : Nat) (w : World) (be oe B : Nat) (ns : List Int) (ss : List ByteArray) (mk : Bool) (at_ : Int) (rm : Bool) : Prop := ∃ nv sv, EyeV e1 e2 w be oe B nv sv ns ss mk at_ rm

section
variable {e1 e2 : Nat} {w : World} {be oe B : Nat} {nv sv : Value} {ns : List Int} {ss : List ByteArray} {mk : Bool} {at_ : Int} {rm : Bool}
theorem EyeV.cell0 (h : EyeV e1 e2 w be oe B nv sv ns ss mk at_ rm) : w.cell? ⟨be, oe, none⟩ = some nv := by
  obtain ⟨c, e, h1, h2, _⟩ := h.blk; simp [World.cell?, h1, h2]
theorem EyeV.cell1 (h : EyeV e1 e2 w be oe B nv sv ns ss mk at_ rm) : w.cell? ⟨be, oe + 1, none⟩ = some sv := by
  obtain ⟨c, e, h1, _, h2, _⟩ := h.blk; simp [World.cell?, h1, h2]
theorem EyeV.cell2 (h : EyeV e1 e2 w be oe B nv sv ns ss mk at_ rm) : w.cell? ⟨be, oe + 2, none⟩ = some (.bool mk) := by
  obtain ⟨c, e, h1, _, _, h2, _⟩ := h.blk; simp [World.cell?, h1, h2]
theorem EyeV.cell3 (h : EyeV e1 e2 w be oe B nv sv ns ss mk at_ rm) : w.cell? ⟨be, oe + 3, none⟩ = some (.int .i64 at_) := by
  obtain ⟨c, e, h1, _, _, _, h2, _⟩ := h.blk; simp [World.cell?, h1, h2]
theorem EyeV.cell4 (h : EyeV e1 e2 w be oe B nv sv ns ss mk at_ rm) : w.cell? ⟨be, oe + 4, none⟩ = some (.bool rm) := by
  obtain ⟨c, e, h1, _, _, _, _, h2⟩ := h.blk; simp [World.cell?, h1, h2]
theorem EyeV.frozen (h : EyeV e1 e2 w be oe B nv sv ns ss mk at_ rm) (o : Nat) : w.frozen? ⟨be, o, none⟩ = false := by
  obtain ⟨c, e, h1, _⟩ := h.blk; simp [World.frozen?, h1]
theorem EyeV.inHeap (h : EyeV e1 e2 w be oe B nv sv ns ss mk at_ rm) : be < w.heap.size := by
  obtain ⟨c, e, h1, _⟩ := h.blk; exact (Array.getElem?_eq_some_iff.1 h1).1
theorem EyeV.nameN (h : EyeV e1 e2 w be oe B nv sv ns ss mk at_ rm) : ∀ k, nv.ownBlock = some k → B ≤ k ∧ k < w.heap.size := h.rowN.lt
theorem EyeV.nameS (h : EyeV e1 e2 w be oe B nv sv ns ss mk at_ rm) : ∀ k, sv.ownBlock = some k → B ≤ k ∧ k < w.heap.size := h.rowS.lt
/-- The two lists lie apart: their elements' types differ. -/
theorem EyeV.apart (h : EyeV e1 e2 w be oe B nv sv ns ss mk at_ rm) (hne : e1 ≠ e2) : nv.ownBlock = none ∨ nv.ownBlock ≠ sv.ownBlock := by
  rcases h.rowN.2 with ⟨hn, _⟩ | ⟨g, cap, cur, hn, _, hg, _⟩
  · left; rw [hn]; rfl
  · right
    rcases h.rowS.2 with ⟨hs, _⟩ | ⟨g', cap', cur', hs, _, hg', _⟩
    · rw [hn, hs]; simp [Value.ownBlock]
    · rw [hn, hs]; simp only [Value.ownBlock, ne_eq, Option.some.injEq]
      intro e; subst e; rw [hg] at hg'; injection hg' with hg'; injection hg' with _ k; exact hne k
/-- Behind a step that turns neither the eye nor its lists. -/
theorem EyeV.keep {w' : World} (h : EyeV e1 e2 w be oe B nv sv ns ss mk at_ rm) {S : Nat → Prop} (hf : Fr S w w') (h1 : ¬ S be) (h2 : ∀ k, B ≤ k → k < w.heap.size → ¬ S k) : EyeV e1 e2 w' be oe B nv sv ns ss mk at_ rm := by
  have key : ∀ {v : Value} {e : Nat} {n : Nat} {xs : List Value}, w.ownsRow B e 1 v n xs → w'.ownsRow B e 1 v n xs := by
    intro v e n xs hr
    refine ⟨hr.1, ?_⟩
    rcases hr.2 with hn | ⟨g, cap, cur, rfl, hb, hgg, rest⟩
    · exact .inl hn
    · refine .inr ⟨g, cap, cur, rfl, hb, ?_, rest⟩
      have hlt := (Array.getElem?_eq_some_iff.1 hgg).1
      rw [hf.block g hlt (h2 g hb hlt)]; exact hgg
  obtain ⟨c, e, hb, r⟩ := h.blk
  exact ⟨⟨c, e, by rw [hf.block be (Array.getElem?_eq_some_iff.1 hb).1 h1]; exact hb, r⟩, key h.rowN, key h.rowS, h.lt⟩
theorem EyeV.drew (h : EyeV e1 e2 w be oe B nv sv ns ss mk at_ rm) : EyeV e1 e2 w.drew be oe B nv sv ns ss mk at_ rm := h.keep (S := fun _ => False) (Fr.refl _ _).drew (by simp) (by simp)
theorem EyeV.alloc (h : EyeV e1 e2 w be oe B nv sv ns ss mk at_ rm) (o : Obj) : EyeV e1 e2 (w.alloc o) be oe B nv sv ns ss mk at_ rm := h.keep (S := fun _ => False) ((Fr.refl _ _).alloc o) (by simp) (by simp)

theorem heap_setCell_at {w : World} {b o : Nat} {c : Array Value} {e : Nat} {fr : Nat × Nat} {u : Value} (hb : w.heap[b]? = some (.cells c e fr)) : (w.setCell ⟨b, o, none⟩ u).heap[b]? = some (.cells (c.setIfInBounds o u) e fr) := by
  simp [World.setCell, Array.getElem?_modify, hb]

/-- A number is put behind the others, and the list is stored back. -/
theorem EyeV.pushN (h : EyeV e1 e2 w be oe B nv sv ns ss mk at_ rm) (hne : e1 ≠ e2) {w1 : World} {nv' : Value} {x : Int} (hg : w.grownBy w1 nv.ownBlock)
    (hr : w1.ownsRow B e1 1 nv' (ns.length + 1) (ns.map (Value.int .i64) ++ [Value.int .i64 x])) : EyeV e1 e2 (w1.setCell ⟨be, oe, none⟩ nv') be oe B nv' sv (ns ++ [x]) ss mk at_ rm := by
  have hlt := h.lt
  have hbe : w1.heap[be]? = w.heap[be]? := hg.block be h.inHeap (fun e => by have := h.nameN be e.symm; omega)
  have hap := h.apart hne
  obtain ⟨c, e, hb, c0, c1, c2, c3, c4⟩ := h.blk
  have hsz : oe < c.size := (Array.getElem?_eq_some_iff.1 c0).1
  refine ⟨⟨c.setIfInBounds oe nv', e, heap_setCell_at (hbe.trans hb), ?_, ?_, ?_, ?_, ?_⟩, ?_, ?_, hlt⟩
  · simp [hsz]
  · rw [Array.getElem?_setIfInBounds_ne (by omega)]; exact c1
  · rw [Array.getElem?_setIfInBounds_ne (by omega)]; exact c2
  · rw [Array.getElem?_setIfInBounds_ne (by omega)]; exact c3
  · rw [Array.getElem?_setIfInBounds_ne (by omega)]; exact c4
  · have := ownsRow_setCell_below hr (a := ⟨be, oe, none⟩) hlt nv'
    simpa using this
  · exact ownsRow_setCell_below (h.rowS.kept hg (by rcases hap with h' | h'; (· by_cases hs : sv.ownBlock = none; exact .inl hs; exact .inr (by rw [h']; exact hs)); exact .inr (fun e => h' e.symm))) (a := ⟨be, oe, none⟩) hlt nv'
theorem EyeV.pushS (h : EyeV e1 e2 w be oe B nv sv ns ss mk at_ rm) (hne : e1 ≠ e2) {w1 : World} {sv' : Value} {x : ByteArray} (hg : w.grownBy w1 sv.ownBlock)
    (hr : w1.ownsRow B e2 1 sv' (ss.length + 1) (ss.map Value.string ++ [Value.string x])) : EyeV e1 e2 (w1.setCell ⟨be, oe + 1, none⟩ sv') be oe B nv sv' ns (ss ++ [x]) mk at_ rm := by
  have hlt := h.lt
  have hbe : w1.heap[be]? = w.heap[be]? := hg.block be h.inHeap (fun e => by have := h.nameS be e.symm; omega)
  have hap := h.apart hne
  obtain ⟨c, e, hb, c0, c1, c2, c3, c4⟩ := h.blk
  have hsz : oe + 1 < c.size := (Array.getElem?_eq_some_iff.1 c1).1
  refine ⟨⟨c.setIfInBounds (oe + 1) sv', e, heap_setCell_at (hbe.trans hb), ?_, ?_, ?_, ?_, ?_⟩, ?_, ?_, hlt⟩
  · rw [Array.getElem?_setIfInBounds_ne (by omega)]; exact c0
  · simp [hsz]
  · rw [Array.getElem?_setIfInBounds_ne (by omega)]; exact c2
  · rw [Array.getElem?_setIfInBounds_ne (by omega)]; exact c3
  · rw [Array.getElem?_setIfInBounds_ne (by omega)]; exact c4
  · exact ownsRow_setCell_below (h.rowN.kept hg (by rcases hap with h' | h'; exact .inl h'; exact .inr h')) (a := ⟨be, oe + 1, none⟩) hlt sv'
  · have := ownsRow_setCell_below hr (a := ⟨be, oe + 1, none⟩) hlt sv'
    simpa using this
/-- The next mark. -/
theorem EyeV.bump (h : EyeV e1 e2 w be oe B nv sv ns ss mk at_ rm) (n : Int) : EyeV e1 e2 (w.setCell ⟨be, oe + 3, none⟩ (.int .i64 n)) be oe B nv sv ns ss mk n rm := by
  obtain ⟨c, e, hb, c0, c1, c2, c3, c4⟩ := h.blk
  have hsz : oe + 3 < c.size := (Array.getElem?_eq_some_iff.1 c3).1
  refine ⟨⟨c.setIfInBounds (oe + 3) (.int .i64 n), e, heap_setCell_at hb, ?_, ?_, ?_, ?_, ?_⟩, ownsRow_setCell_below h.rowN (a := ⟨be, oe + 3, none⟩) h.lt _, ownsRow_setCell_below h.rowS (a := ⟨be, oe + 3, none⟩) h.lt _, h.lt⟩
  · rw [Array.getElem?_setIfInBounds_ne (by omega)]; exact c0
  · rw [Array.getElem?_setIfInBounds_ne (by omega)]; exact c1
  · rw [Array.getElem?_setIfInBounds_ne (by omega)]; exact c2
  · simp [hsz]
  · rw [Array.getElem?_setIfInBounds_ne (by omega)]; exact c4
end
end Go.Vt
