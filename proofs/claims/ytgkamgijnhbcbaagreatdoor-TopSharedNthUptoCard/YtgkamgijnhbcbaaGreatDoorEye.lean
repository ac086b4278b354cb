/- An eye of the law: what it has noted, how it is kept, and the contract of a function that shows data to it. -/
import Derived.Test.YtgkamgijnhbcbaaGreatDoorCore
import Derived.OwnWalk
import Derived.OneCell
import Derived.WalkKit
import Derived.Deep.AppendLies
namespace Go.Vt
open Go.RowKit
mutual
/-- No cell of what the value reads as is frozen. -/
def Rf (w : World) : C → Value → Prop
  | .sl sz _ _ rows, v => rows = [] ∨ ∃ l c b o, v = .slice (some ⟨b, o, none⟩) l c ∧ RfRows w b sz o rows
  | .int .., _ => True
  | .bool .., _ => True
  | .str .., _ => True
def RfRows (w : World) (b sz : Nat) : Nat → List (List C) → Prop
  | _, [] => True
  | o, r :: rs => RfRow w b o r ∧ RfRows w b sz (o + sz) rs
def RfRow (w : World) (b : Nat) : Nat → List C → Prop
  | _, [] => True
  | o, c :: cs => (w.frozen? ⟨b, o, none⟩ = false ∧ ∃ v, w.cell? ⟨b, o, none⟩ = some v ∧ Rf w c v) ∧ RfRow w b (o + 1) cs
end
mutual
theorem Rf.mono {F : Nat → Prop} {w w' : World} (h : ∀ b, F b → w'.heap[b]? = w.heap[b]?) : ∀ (c : C) (v : Value), Rd F w c v → Rf w c v → Rf w' c v
  | .int .., _, _, _ => by simp [Rf]
  | .bool .., _, _, _ => by simp [Rf]
  | .str .., _, _, _ => by simp [Rf]
  | .sl sz len cap rows, v, hr, hf => by
    simp only [Rd] at hr
    simp only [Rf] at hf ⊢
    obtain ⟨a, rfl, _, _, h4⟩ := hr
    rcases hf with hf | ⟨l, c, b, o, e, hf⟩
    · exact .inl hf
    rcases h4 with h4 | ⟨b', o', e', hF, h4⟩
    · exact .inl h4
    · rw [e'] at e
      injection e with e e1 e2
      injection e with e
      injection e with e3 e4
      subst e1 e2 e3 e4
      exact .inr ⟨_, _, b', o', by rw [e'], Rf.monoRows h b' sz hF rows o' h4 hf⟩
theorem Rf.monoRows {F : Nat → Prop} {w w' : World} (h : ∀ b, F b → w'.heap[b]? = w.heap[b]?) (b sz : Nat) (hb : F b) : ∀ (rs : List (List C)) (o : Nat), RdRows F w b sz o rs → RfRows w b sz o rs → RfRows w' b sz o rs
  | [], _, _, _ => by simp [RfRows]
  | r :: rs, o, hr, hf => by
    simp only [RdRows] at hr
    simp only [RfRows] at hf ⊢
    exact ⟨Rf.monoRow h b hb r o hr.1.2 hf.1, Rf.monoRows h b sz hb rs (o + sz) hr.2 hf.2⟩
theorem Rf.monoRow {F : Nat → Prop} {w w' : World} (h : ∀ b, F b → w'.heap[b]? = w.heap[b]?) (b : Nat) (hb : F b) : ∀ (cs : List C) (o : Nat), RdRow F w b o cs → RfRow w b o cs → RfRow w' b o cs
  | [], _, _, _ => by simp [RfRow]
  | c :: cs, o, hr, hf => by
    simp only [RdRow] at hr
    simp only [RfRow] at hf ⊢
    obtain ⟨⟨v, h1, h2⟩, h3⟩ := hr
    obtain ⟨⟨f1, v', f2, f3⟩, f4⟩ := hf
    rw [h1] at f2
    injection f2 with f2
    subst f2
    refine ⟨⟨?_, v, ?_, Rf.mono h c v h2 f3⟩, Rf.monoRow h b hb cs (o + 1) h3 f4⟩
    · rw [World.frozen?_of_block (w := w) (a := ⟨b, o, none⟩) (h b hb)]; exact f1
    · rw [World.cell?_of_block (w := w) (a := ⟨b, o, none⟩) (h b hb)]; exact h1
end
mutual
/-- In memory of plain blocks nothing is frozen. -/
theorem Rf.of {F : Nat → Prop} {w : World} (h : ∀ b, F b → ∃ c e, w.heap[b]? = some (.cells c e (0, 0))) : ∀ (c : C) (v : Value), Rd F w c v → Rf w c v
  | .int .., _, _ => by simp [Rf]
  | .bool .., _, _ => by simp [Rf]
  | .str .., _, _ => by simp [Rf]
  | .sl sz len cap rows, v, hr => by
    simp only [Rd] at hr
    simp only [Rf]
    obtain ⟨a, rfl, _, _, h4⟩ := hr
    rcases h4 with h4 | ⟨b', o', e', hF, h4⟩
    · exact .inl h4
    · exact .inr ⟨_, _, b', o', by rw [e'], Rf.ofRows h b' sz hF rows o' h4⟩
theorem Rf.ofRows {F : Nat → Prop} {w : World} (h : ∀ b, F b → ∃ c e, w.heap[b]? = some (.cells c e (0, 0))) (b sz : Nat) (hb : F b) : ∀ (rs : List (List C)) (o : Nat), RdRows F w b sz o rs → RfRows w b sz o rs
  | [], _, _ => by simp [RfRows]
  | r :: rs, o, hr => by
    simp only [RdRows] at hr
    simp only [RfRows]
    exact ⟨Rf.ofRow h b hb r o hr.1.2, Rf.ofRows h b sz hb rs (o + sz) hr.2⟩
theorem Rf.ofRow {F : Nat → Prop} {w : World} (h : ∀ b, F b → ∃ c e, w.heap[b]? = some (.cells c e (0, 0))) (b : Nat) (hb : F b) : ∀ (cs : List C) (o : Nat), RdRow F w b o cs → RfRow w b o cs
  | [], _, _ => by simp [RfRow]
  | c :: cs, o, hr => by
    simp only [RdRow] at hr
    simp only [RfRow]
    obtain ⟨⟨v, h1, h2⟩, h3⟩ := hr
    obtain ⟨cc, e, hbk⟩ := h b hb
    exact ⟨⟨by simp [World.frozen?, hbk], v, h1, Rf.of h c v h2⟩, Rf.ofRow h b hb cs (o + 1) h3⟩
end
/-- The values of a row. -/
def RfVals (w : World) : List C → List Value → Prop
  | [], [] => True
  | c :: cs, v :: vs => Rf w c v ∧ RfVals w cs vs
  | _, _ => False
theorem RfVals.mono {F : Nat → Prop} {w w' : World} (h : ∀ b, F b → w'.heap[b]? = w.heap[b]?) : ∀ (cs : List C) (vs : List Value), RdVals F w cs vs → RfVals w cs vs → RfVals w' cs vs
  | [], [], _, _ => trivial
  | c :: cs, v :: vs, hr, hf => ⟨Rf.mono h c v hr.1 hf.1, RfVals.mono h cs vs hr.2 hf.2⟩
  | [], _ :: _, hr, _ => hr.elim
  | _ :: _, [], hr, _ => hr.elim
theorem RfRow.split {w : World} {b : Nat} : ∀ (c1 c2 : List C) (o : Nat), RfRow w b o (c1 ++ c2) → RfRow w b o c1 ∧ RfRow w b (o + c1.length) c2
  | [], c2, o, h => ⟨by simp [RfRow], h⟩
  | c :: cs, c2, o, h => by
    simp only [List.cons_append, RfRow] at h
    obtain ⟨h1, h2⟩ := RfRow.split cs c2 (o + 1) h.2
    refine ⟨by simp only [RfRow]; exact ⟨h.1, h1⟩, ?_⟩
    rw [List.length_cons, show o + (cs.length + 1) = o + 1 + cs.length from by omega]; exact h2
theorem RfVals.row {w : World} {b : Nat} : ∀ (cs : List C) (vs : List Value) (o : Nat), RfVals w cs vs → (∀ j u, vs[j]? = some u → w.cell? ⟨b, o + j, none⟩ = some u) → (∀ j, w.frozen? ⟨b, j, none⟩ = false) → RfRow w b o cs
  | [], [], _, _, _, _ => by simp [RfRow]
  | c :: cs, v :: vs, o, h, hc, hf => by
    simp only [RfRow]
    refine ⟨⟨hf o, v, by simpa using hc 0 v (by simp), h.1⟩, RfVals.row cs vs (o + 1) h.2 (fun j u hu => ?_) hf⟩
    rw [show o + 1 + j = o + (j + 1) from by omega]
    exact hc (j + 1) u (by simpa using hu)
  | [], _ :: _, _, h, _, _ => h.elim
  | _ :: _, [], _, h, _, _ => h.elim
theorem RfVals.row2 {w : World} {b : Nat} : ∀ (cs : List C) (vs : List Value) (o : Nat), RfVals w cs vs → (∀ j u, vs[j]? = some u → w.cell? ⟨b, o + j, none⟩ = some u) → (∀ j, j < vs.length → w.frozen? ⟨b, o + j, none⟩ = false) → RfRow w b o cs
  | [], [], _, _, _, _ => by simp [RfRow]
  | c :: cs, v :: vs, o, h, hc, hf => by
    simp only [RfRow]
    refine ⟨⟨by simpa using hf 0 (by simp), v, by simpa using hc 0 v (by simp), h.1⟩, RfVals.row2 cs vs (o + 1) h.2 (fun j u hu => ?_) (fun j hj => ?_)⟩
    · rw [show o + 1 + j = o + (j + 1) from by omega]
      exact hc (j + 1) u (by simpa using hu)
    · rw [show o + 1 + j = o + (j + 1) from by omega]
      exact hf (j + 1) (by simp; omega)
  | [], _ :: _, _, h, _, _ => h.elim
  | _ :: _, [], _, h, _, _ => h.elim
theorem RfVals.app {w : World} : ∀ (a c : List C) (v1 v2 : List Value), RfVals w a v1 → RfVals w c v2 → RfVals w (a ++ c) (v1 ++ v2)
  | [], _, [], _, _, h => h
  | _ :: a, c, _ :: v1, v2, h1, h2 => ⟨h1.1, RfVals.app a c v1 v2 h1.2 h2⟩
  | [], _, _ :: _, _, h, _ => h.elim
  | _ :: _, _, [], _, h, _ => h.elim
/-- A value in its cell. -/
theorem RfRow.one {w : World} {b o : Nat} {c : C} {v : Value} (h : RfRow w b o [c]) (hv : w.cell? ⟨b, o, none⟩ = some v) : Rf w c v := by
  simp only [RfRow, and_true] at h
  obtain ⟨_, v', h1, h2⟩ := h
  rw [hv] at h1
  injection h1 with h1
  subst h1
  exact h2
/-- A cell in which there lies what is laid into it. -/
theorem setCell_same {w : World} {b o : Nat} {v : Value} (h : w.cell? ⟨b, o, none⟩ = some v) (hc : ∃ c e fr, w.heap[b]? = some (.cells c e fr)) : w.setCell ⟨b, o, none⟩ v = w := by
  obtain ⟨c, e, fr, hb⟩ := hc
  have hl := (Array.getElem?_eq_some_iff.1 hb).1
  have h1 : c[o]? = some v := by
    simp only [World.cell?, hb] at h
    exact h
  have hlo := (Array.getElem?_eq_some_iff.1 h1).1
  have h2 : c.setIfInBounds o v = c := by
    apply Array.ext
    · simp
    · intro i g1 g2
      rw [Array.getElem_setIfInBounds g2]
      split
      · rename_i e; subst e
        exact (Array.getElem?_eq_some_iff.1 h1).2.symm
      · rfl
  have h3 : (w.setCell ⟨b, o, none⟩ v).heap = w.heap := by
    apply Array.ext_getElem?
    intro i
    by_cases e : i = b
    · subst e
      simp only [World.setCell, Array.getElem?_modify, if_pos, hb, Option.map_some, h2]
      rfl
    · exact Below.heap_setCell w ⟨b, o, none⟩ v i e
  have h4 : w.setCell ⟨b, o, none⟩ v = { w with heap := (w.setCell ⟨b, o, none⟩ v).heap } := rfl
  rw [h4, h3]
end Go.Vt
namespace Go.Vt
open Go.RowKit

/-- Nothing that was there has turned but the blocks of S. -/
structure Fr (S : Nat → Prop) (w w' : World) : Prop where
  os : w'.os = w.os
  tape : w'.tape = w.tape
  output : w'.output = w.output
  size : w.heap.size ≤ w'.heap.size
  block : ∀ k, k < w.heap.size → ¬ S k → w'.heap[k]? = w.heap[k]?
theorem Fr.refl (S : Nat → Prop) (w : World) : Fr S w w := ⟨rfl, rfl, rfl, Nat.le_refl _, fun _ _ _ => rfl⟩
theorem Fr.trans {S : Nat → Prop} {a b c : World} (h : Fr S a b) (k : Fr S b c) : Fr S a c :=
  ⟨k.os.trans h.os, k.tape.trans h.tape, k.output.trans h.output, Nat.le_trans h.size k.size, fun i hi hs => (k.block i (Nat.lt_of_lt_of_le hi h.size) hs).trans (h.block i hi hs)⟩
/-- The second step may turn what is new behind the first. -/
theorem Fr.trans' {S S' : Nat → Prop} {a b c : World} (h : Fr S a b) (k : Fr S' b c) (hs : ∀ i, i < a.heap.size → S' i → S i) : Fr S a c :=
  ⟨k.os.trans h.os, k.tape.trans h.tape, k.output.trans h.output, Nat.le_trans h.size k.size, fun i hi hn => (k.block i (Nat.lt_of_lt_of_le hi h.size) (fun hh => hn (hs i hi hh))).trans (h.block i hi hn)⟩
theorem Fr.mono {S S' : Nat → Prop} {a b : World} (h : Fr S a b) (hs : ∀ i, i < a.heap.size → S i → S' i) : Fr S' a b :=
  ⟨h.os, h.tape, h.output, h.size, fun i hi hn => h.block i hi (fun hh => hn (hs i hi hh))⟩
theorem Fr.drew {S : Nat → Prop} {a b : World} (h : Fr S a b) : Fr S a b.drew := ⟨h.os, h.tape, h.output, h.size, h.block⟩
theorem Fr.alloc {S : Nat → Prop} {a b : World} (h : Fr S a b) (o : Obj) : Fr S a (b.alloc o) :=
  h.trans ⟨rfl, rfl, rfl, by simp, fun k hk _ => Below.heap_alloc _ _ _ hk⟩
theorem Fr.setCell {S : Nat → Prop} {a b : World} (h : Fr S a b) {p : Addr} (hp : p.block < a.heap.size → S p.block) (u : Value) : Fr S a (b.setCell p u) :=
  h.trans' (S' := fun k => k = p.block) ⟨rfl, rfl, rfl, by simp [World.setCell], fun k _ hk => Below.heap_setCell _ _ _ _ hk⟩ (fun i hi e => e ▸ hp (e ▸ hi))
theorem Fr.grown {S : Nat → Prop} {a b c : World} {row : Option Nat} (h : Fr S a b) (hg : b.grownBy c row) (hr : ∀ k, row = some k → k < a.heap.size → S k) : Fr S a c :=
  h.trans' (S' := fun k => row = some k) ⟨hg.os, hg.tape, hg.output, hg.size, fun k hk hn => hg.block k hk (fun e => hn e.symm)⟩ (fun i hi e => hr i e hi)
theorem Fr.of_below {a b : World} (h : Below a.heap.size a b) (S : Nat → Prop) : Fr S a b := ⟨h.os, h.tape, h.output, h.size, fun k hk _ => h.block k hk⟩
theorem Fr.below {a b : World} {S : Nat → Prop} (h : Fr S a b) {B : Nat} (hB : B ≤ a.heap.size) (hs : ∀ k, k < B → ¬ S k) : Below B a b := ⟨h.os, h.tape, h.output, h.size, fun k hk => h.block k (by omega) (hs k hk)⟩
theorem Fr.cell {S : Nat → Prop} {a b : World} (h : Fr S a b) {p : Addr} {v : Value} (hv : a.cell? p = some v) (hs : ¬ S p.block) : b.cell? p = some v := by
  rw [World.cell?_of_block (w := a) (h.block p.block (World.block_lt_of_cell? a p hv) hs)]; exact hv

/-- An eye at places oe .. oe + 4 of block be: its lists are its own, from block B on. -/
structure EyeV (e1 e2 : Nat) (w : World) (be oe B : Nat) (nv sv : Value) (ns : List Int) (ss : List ByteArray) (mk : Bool) (at_ : Int) (rm : Bool) : Prop where
  blk : ∃ c e, w.heap[be]? = some (.cells c e (0, 0)) ∧ c[oe]? = some nv ∧ c[oe + 1]? = some sv ∧ c[oe + 2]? = some (.bool mk) ∧ c[oe + 3]? = some (.int .i64 at_) ∧ c[oe + 4]? = some (.bool rm)
  rowN : w.ownsRow B e1 1 nv ns.length (ns.map (Value.int .i64))
  rowS : w.ownsRow B e2 1 sv ss.length (ss.map Value.string)
  lt : be < B
def Eye (e1 e2 : Nat) (w : World) (be oe B : Nat) (ns : List Int) (ss : List ByteArray) (mk : Bool) (at_ : Int) (rm : Bool) : Prop := ∃ nv sv, EyeV e1 e2 w be oe B nv sv ns ss mk at_ rm

section
variable {e1 e2 : Nat} {w : World} {be oe B : Nat} {nv sv : Value} {ns : List Int} {ss : List ByteArray} {mk : Bool} {at_ : Int} {rm : Bool}
theorem EyeV.cell0 (h : EyeV e1 e2 w be oe B nv sv ns ss mk at_ rm) : w.cell? ⟨be, oe, none⟩ = some nv := by
  obtain ⟨c, e, h1, h2, _⟩ := h.blk; simp [World.cell?, h1, h2]
theorem EyeV.cell1 (h : EyeV e1 e2 w be oe B nv sv ns ss mk at_ rm) : w.cell? ⟨be, oe + 1, none⟩ = some sv := by
  obtain ⟨c, e, h1, _, h2, _⟩ := h.blk; simp [World.cell?, h1, h2]
theorem EyeV.cell2 (h : EyeV e1 e2 w be oe B nv sv ns ss mk at_ rm) : w.cell? ⟨be, oe + 2, none⟩ = some (.bool mk) := by
  obtain ⟨c, e, h1, _, _, h2, _⟩ := h.blk; simp [World.cell?, h1, h2]
theorem EyeV.cell3 (h : EyeV e1 e2 w be oe B nv sv ns ss mk at_ rm) : w.cell? ⟨be, oe + 3, none⟩ = some (.int .i64 at_) := by
  obtain ⟨c, e, h1, _, _, _, h2, _⟩ := h.blk; simp [World.cell?, h1, h2]
theorem EyeV.cell4 (h : EyeV e1 e2 w be oe B nv sv ns ss mk at_ rm) : w.cell? ⟨be, oe + 4, none⟩ = some (.bool rm) := by
  obtain ⟨c, e, h1, _, _, _, _, h2⟩ := h.blk; simp [World.cell?, h1, h2]
theorem EyeV.frozen (h : EyeV e1 e2 w be oe B nv sv ns ss mk at_ rm) (o : Nat) : w.frozen? ⟨be, o, none⟩ = false := by
  obtain ⟨c, e, h1, _⟩ := h.blk; simp [World.frozen?, h1]
theorem EyeV.inHeap (h : EyeV e1 e2 w be oe B nv sv ns ss mk at_ rm) : be < w.heap.size := by
  obtain ⟨c, e, h1, _⟩ := h.blk; exact (Array.getElem?_eq_some_iff.1 h1).1
theorem EyeV.nameN (h : EyeV e1 e2 w be oe B nv sv ns ss mk at_ rm) : ∀ k, nv.ownBlock = some k → B ≤ k ∧ k < w.heap.size := h.rowN.lt
theorem EyeV.nameS (h : EyeV e1 e2 w be oe B nv sv ns ss mk at_ rm) : ∀ k, sv.ownBlock = some k → B ≤ k ∧ k < w.heap.size := h.rowS.lt
/-- The two lists lie apart: their elements' types differ. -/
theorem EyeV.apart (h : EyeV e1 e2 w be oe B nv sv ns ss mk at_ rm) (hne : e1 ≠ e2) : nv.ownBlock = none ∨ nv.ownBlock ≠ sv.ownBlock := by
  rcases h.rowN.2 with ⟨hn, _⟩ | ⟨g, cap, cur, hn, _, hg, _⟩
  · left; rw [hn]; rfl
  · right
    rcases h.rowS.2 with ⟨hs, _⟩ | ⟨g', cap', cur', hs, _, hg', _⟩
    · rw [hn, hs]; simp [Value.ownBlock]
    · rw [hn, hs]; simp only [Value.ownBlock, ne_eq, Option.some.injEq]
      intro e; subst e; rw [hg] at hg'; injection hg' with hg'; injection hg' with _ k; exact hne k
/-- Behind a step that turns neither the eye nor its lists. -/
theorem EyeV.keep {w' : World} (h : EyeV e1 e2 w be oe B nv sv ns ss mk at_ rm) {S : Nat → Prop} (hf : Fr S w w') (h1 : ¬ S be) (h2 : ∀ k, B ≤ k → k < w.heap.size → ¬ S k) : EyeV e1 e2 w' be oe B nv sv ns ss mk at_ rm := by
  have key : ∀ {v : Value} {e : Nat} {n : Nat} {xs : List Value}, w.ownsRow B e 1 v n xs → w'.ownsRow B e 1 v n xs := by
    intro v e n xs hr
    refine ⟨hr.1, ?_⟩
    rcases hr.2 with hn | ⟨g, cap, cur, rfl, hb, hgg, rest⟩
    · exact .inl hn
    · refine .inr ⟨g, cap, cur, rfl, hb, ?_, rest⟩
      have hlt := (Array.getElem?_eq_some_iff.1 hgg).1
      rw [hf.block g hlt (h2 g hb hlt)]; exact hgg
  obtain ⟨c, e, hb, r⟩ := h.blk
  exact ⟨⟨c, e, by rw [hf.block be (Array.getElem?_eq_some_iff.1 hb).1 h1]; exact hb, r⟩, key h.rowN, key h.rowS, h.lt⟩
theorem EyeV.drew (h : EyeV e1 e2 w be oe B nv sv ns ss mk at_ rm) : EyeV e1 e2 w.drew be oe B nv sv ns ss mk at_ rm := h.keep (S := fun _ => False) (Fr.refl _ _).drew (by simp) (by simp)
theorem EyeV.alloc (h : EyeV e1 e2 w be oe B nv sv ns ss mk at_ rm) (o : Obj) : EyeV e1 e2 (w.alloc o) be oe B nv sv ns ss mk at_ rm := h.keep (S := fun _ => False) ((Fr.refl _ _).alloc o) (by simp) (by simp)

theorem heap_setCell_at {w : World} {b o : Nat} {c : Array Value} {e : Nat} {fr : Nat × Nat} {u : Value} (hb : w.heap[b]? = some (.cells c e fr)) : (w.setCell ⟨b, o, none⟩ u).heap[b]? = some (.cells (c.setIfInBounds o u) e fr) := by
  simp [World.setCell, Array.getElem?_modify, hb]

/-- A number is put behind the others, and the list is stored back. -/
theorem EyeV.pushN (h : EyeV e1 e2 w be oe B nv sv ns ss mk at_ rm) (hne : e1 ≠ e2) {w1 : World} {nv' : Value} {x : Int} (hg : w.grownBy w1 nv.ownBlock)
    (hr : w1.ownsRow B e1 1 nv' (ns.length + 1) (ns.map (Value.int .i64) ++ [Value.int .i64 x])) : EyeV e1 e2 (w1.setCell ⟨be, oe, none⟩ nv') be oe B nv' sv (ns ++ [x]) ss mk at_ rm := by
  have hlt := h.lt
  have hbe : w1.heap[be]? = w.heap[be]? := hg.block be h.inHeap (fun e => by have := h.nameN be e.symm; omega)
  have hap := h.apart hne
  obtain ⟨c, e, hb, c0, c1, c2, c3, c4⟩ := h.blk
  have hsz : oe < c.size := (Array.getElem?_eq_some_iff.1 c0).1
  refine ⟨⟨c.setIfInBounds oe nv', e, heap_setCell_at (hbe.trans hb), ?_, ?_, ?_, ?_, ?_⟩, ?_, ?_, hlt⟩
  · simp [hsz]
  · rw [Array.getElem?_setIfInBounds_ne (by omega)]; exact c1
  · rw [Array.getElem?_setIfInBounds_ne (by omega)]; exact c2
  · rw [Array.getElem?_setIfInBounds_ne (by omega)]; exact c3
  · rw [Array.getElem?_setIfInBounds_ne (by omega)]; exact c4
  · have := ownsRow_setCell_below hr (a := ⟨be, oe, none⟩) hlt nv'
    simpa using this
  · exact ownsRow_setCell_below (h.rowS.kept hg (by rcases hap with h' | h'; (· by_cases hs : sv.ownBlock = none; exact .inl hs; exact .inr (by rw [h']; exact hs)); exact .inr (fun e => h' e.symm))) (a := ⟨be, oe, none⟩) hlt nv'
theorem EyeV.pushS (h : EyeV e1 e2 w be oe B nv sv ns ss mk at_ rm) (hne : e1 ≠ e2) {w1 : World} {sv' : Value} {x : ByteArray} (hg : w.grownBy w1 sv.ownBlock)
    (hr : w1.ownsRow B e2 1 sv' (ss.length + 1) (ss.map Value.string ++ [Value.string x])) : EyeV e1 e2 (w1.setCell ⟨be, oe + 1, none⟩ sv') be oe B nv sv' ns (ss ++ [x]) mk at_ rm := by
  have hlt := h.lt
  have hbe : w1.heap[be]? = w.heap[be]? := hg.block be h.inHeap (fun e => by have := h.nameS be e.symm; omega)
  have hap := h.apart hne
  obtain ⟨c, e, hb, c0, c1, c2, c3, c4⟩ := h.blk
  have hsz : oe + 1 < c.size := (Array.getElem?_eq_some_iff.1 c1).1
  refine ⟨⟨c.setIfInBounds (oe + 1) sv', e, heap_setCell_at (hbe.trans hb), ?_, ?_, ?_, ?_, ?_⟩, ?_, ?_, hlt⟩
  · rw [Array.getElem?_setIfInBounds_ne (by omega)]; exact c0
  · simp [hsz]
  · rw [Array.getElem?_setIfInBounds_ne (by omega)]; exact c2
  · rw [Array.getElem?_setIfInBounds_ne (by omega)]; exact c3
  · rw [Array.getElem?_setIfInBounds_ne (by omega)]; exact c4
  · exact ownsRow_setCell_below (h.rowN.kept hg (by rcases hap with h' | h'; exact .inl h'; exact .inr h')) (a := ⟨be, oe + 1, none⟩) hlt sv'
  · have := ownsRow_setCell_below hr (a := ⟨be, oe + 1, none⟩) hlt sv'
    simpa using this
/-- The next mark. -/
theorem EyeV.bump (h : EyeV e1 e2 w be oe B nv sv ns ss mk at_ rm) (n : Int) : EyeV e1 e2 (w.setCell ⟨be, oe + 3, none⟩ (.int .i64 n)) be oe B nv sv ns ss mk n rm := by
  obtain ⟨c, e, hb, c0, c1, c2, c3, c4⟩ := h.blk
  have hsz : oe + 3 < c.size := (Array.getElem?_eq_some_iff.1 c3).1
  refine ⟨⟨c.setIfInBounds (oe + 3) (.int .i64 n), e, heap_setCell_at hb, ?_, ?_, ?_, ?_, ?_⟩, ownsRow_setCell_below h.rowN (a := ⟨be, oe + 3, none⟩) h.lt _, ownsRow_setCell_below h.rowS (a := ⟨be, oe + 3, none⟩) h.lt _, h.lt⟩
  · rw [Array.getElem?_setIfInBounds_ne (by omega)]; exact c0
  · rw [Array.getElem?_setIfInBounds_ne (by omega)]; exact c1
  · rw [Array.getElem?_setIfInBounds_ne (by omega)]; exact c2
  · simp [hsz]
  · rw [Array.getElem?_setIfInBounds_ne (by omega)]; exact c4
end
end Go.Vt
namespace Go.Vt
open Go.RowKit

def lim : Nat := 1099511627776

/-- What a step of an eye turns: the eye's place, what is new, and, where it marks, scalars of what it sees. -/
structure SeeChg (mk : Bool) (F : Nat → Prop) (B be oe : Nat) (w w' : World) : Prop where
  fr : Fr (fun k => k = be ∨ B ≤ k ∨ (mk = true ∧ F k)) w w'
  eye : ∃ c c' e, w.heap[be]? = some (.cells c e (0, 0)) ∧ w'.heap[be]? = some (.cells c' e (0, 0)) ∧ c'.size = c.size ∧ ∀ i, (i < oe ∨ oe + 5 ≤ i) → c'[i]? = c[i]?
  chg : Chg mk F w w'
theorem SeeChg.trans {mk : Bool} {F : Nat → Prop} {B be oe : Nat} {a b c : World} (h : SeeChg mk F B be oe a b) (k : SeeChg mk F B be oe b c) : SeeChg mk F B be oe a c := by
  refine ⟨h.fr.trans k.fr, ?_, fun i hi => ?_⟩
  · obtain ⟨x, x', e, h1, h2, h3, h4⟩ := h.eye
    obtain ⟨y, y', e', k1, k2, k3, k4⟩ := k.eye
    rw [h2] at k1; injection k1 with k1; injection k1 with k1 k5 _; subst k1 k5
    exact ⟨x, y', e, h1, k2, k3.trans h3, fun i hi => (k4 i hi).trans (h4 i hi)⟩
  · have h1 := h.chg i hi
    have k1 := k.chg i hi
    cases mk with
    | true => simp only [if_true] at h1 k1 ⊢; exact h1.trans k1
    | false => simp only [Bool.false_eq_true, if_false] at h1 k1 ⊢; exact k1.trans h1

structure SeePre (e1 e2 : Nat) (tab : Nat → List CT) (cts : List CT) (mk rm : Bool) (cs : List C) (F : Nat → Prop) (w : World) (be oe B b o : Nat) (ns : List Int) (ss : List ByteArray) (at_ : Int) : Prop where
  ht : HtRow tab cts cs
  f : F b
  rd : RdRow F w b o cs
  uf : mk = true → ∀ k, F k → ∃ c e, w.heap[k]? = some (.cells c e (0, 0))
  nf : mk = false → RfRow w b o cs
  fb : ∀ k, F k → k < B ∧ k ≠ be
  bs : B ≤ w.heap.size
  eye : Eye e1 e2 w be oe B ns ss mk at_ rm
  room : rm = true → RoomyRow cs
  ln : ns.length + nodesRow cs ≤ lim
  ls : ss.length + nodesRow cs ≤ lim
  a0 : 0 ≤ at_
  la : at_ + nodesRow cs ≤ lim

/-- What an eye has seen. 'n': how much there was. -/
structure Seen (e1 e2 : Nat) (mk rm : Bool) (n : Nat) (on : List Int) (os : List ByteArray) (F : Nat → Prop) (w : World) (be oe B : Nat) (ns : List Int) (ss : List ByteArray) (at_ : Int) (w' : World) (ns' : List Int) (ss' : List ByteArray) (at' : Int) : Prop where
  eye : Eye e1 e2 w' be oe B ns' ss' mk at' rm
  ln : ns'.length ≤ ns.length + n
  ls : ss'.length ≤ ss.length + n
  a0 : at_ ≤ at'
  la : at' ≤ at_ + n
  same : mk = false → ns' = ns ++ on ∧ ss' = ss ++ os ∧ at' = at_
  chg : SeeChg mk F B be oe w w'
def SeePost (e1 e2 : Nat) (mk rm : Bool) (n : Nat) (on : List Int) (os : List ByteArray) (F : Nat → Prop) (w : World) (be oe B : Nat) (ns : List Int) (ss : List ByteArray) (at_ : Int) (e : Ending) (w' : World) : Prop :=
  e = .returned (.tuple #[]) ∧ ∃ ns' ss' at', Seen e1 e2 mk rm n on os F w be oe B ns ss at_ w' ns' ss' at'

/-- f sees what has the types cts, up to n in size. -/
def SeeOK (P : Program) (e1 e2 : Nat) (tab : Nat → List CT) (n : Nat) (f : FuncId) (cts : List CT) : Prop :=
  ∀ (mk rm : Bool) (cs : List C) (F : Nat → Prop) (w : World) (be oe B b o : Nat) (ns : List Int) (ss : List ByteArray) (at_ : Int), nodesRow cs ≤ n → SeePre e1 e2 tab cts mk rm cs F w be oe B b o ns ss at_ →
    Calls P f #[.pointer (some ⟨be, oe, none⟩), .pointer (some ⟨b, o, none⟩)] w (SeePost e1 e2 mk rm (nodesRow cs) (obsNRow rm cs) (obsSRow rm cs) F w be oe B ns ss at_)

theorem Seen.trans {e1 e2 : Nat} {mk rm : Bool} {n m : Nat} {on om : List Int} {os ot : List ByteArray} {F : Nat → Prop} {w w1 w2 : World} {be oe B : Nat} {ns ns1 ns2 : List Int} {ss ss1 ss2 : List ByteArray} {a a1 a2 : Int}
    (h : Seen e1 e2 mk rm n on os F w be oe B ns ss a w1 ns1 ss1 a1) (k : Seen e1 e2 mk rm m om ot F w1 be oe B ns1 ss1 a1 w2 ns2 ss2 a2) : Seen e1 e2 mk rm (n + m) (on ++ om) (os ++ ot) F w be oe B ns ss a w2 ns2 ss2 a2 :=
  ⟨k.eye, by have := h.ln; have := k.ln; omega, by have := h.ls; have := k.ls; omega, by have := h.a0; have := k.a0; omega, by have := h.la; have := k.la; omega,
    fun hm => by
      obtain ⟨h1, h2, h3⟩ := h.same hm
      obtain ⟨k1, k2, k3⟩ := k.same hm
      subst h1 h2 h3 k1 k2 k3
      exact ⟨by simp, by simp, rfl⟩, h.chg.trans k.chg⟩

theorem HtRow.split {tab : Nat → List CT} : ∀ (t1 t2 : List CT) (cs : List C), HtRow tab (t1 ++ t2) cs → ∃ c1 c2, cs = c1 ++ c2 ∧ c1.length = t1.length ∧ HtRow tab t1 c1 ∧ HtRow tab t2 c2
  | [], t2, cs, h => ⟨[], cs, rfl, rfl, by simp [HtRow], h⟩
  | t :: ts, t2, [], h => by simp [HtRow] at h
  | t :: ts, t2, c :: cs, h => by
    simp only [List.cons_append, HtRow] at h
    obtain ⟨c1, c2, rfl, h1, h2, h3⟩ := HtRow.split ts t2 cs h.2
    exact ⟨c :: c1, c2, rfl, by simp [h1], by simp only [HtRow]; exact ⟨h.1, h2⟩, h3⟩
theorem RdRow.split {F : Nat → Prop} {w : World} {b : Nat} : ∀ (c1 c2 : List C) (o : Nat), RdRow F w b o (c1 ++ c2) → RdRow F w b o c1 ∧ RdRow F w b (o + c1.length) c2
  | [], c2, o, h => ⟨by simp [RdRow], h⟩
  | c :: cs, c2, o, h => by
    simp only [List.cons_append, RdRow] at h
    obtain ⟨h1, h2⟩ := RdRow.split cs c2 (o + 1) h.2
    refine ⟨by simp only [RdRow]; exact ⟨h.1, h1⟩, ?_⟩
    rw [List.length_cons, show o + (cs.length + 1) = o + 1 + cs.length from by omega]; exact h2
theorem RoomyRow.split : ∀ (c1 c2 : List C), RoomyRow (c1 ++ c2) → RoomyRow c1 ∧ RoomyRow c2
  | [], c2, h => ⟨by simp [RoomyRow], h⟩
  | c :: cs, c2, h => by
    simp only [List.cons_append, RoomyRow] at h
    obtain ⟨h1, h2⟩ := RoomyRow.split cs c2 h.2
    exact ⟨by simp only [RoomyRow]; exact ⟨h.1, h1⟩, h2⟩
theorem obsNRow_app (rm : Bool) : ∀ (a b : List C), obsNRow rm (a ++ b) = obsNRow rm a ++ obsNRow rm b
  | [], b => by simp [obsNRow]
  | c :: cs, b => by simp only [List.cons_append, obsNRow, obsNRow_app rm cs b, List.append_assoc]
theorem obsSRow_app (rm : Bool) : ∀ (a b : List C), obsSRow rm (a ++ b) = obsSRow rm a ++ obsSRow rm b
  | [], b => by simp [obsSRow]
  | c :: cs, b => by simp only [List.cons_append, obsSRow, obsSRow_app rm cs b, List.append_assoc]

section
variable {e1 e2 : Nat} {tab : Nat → List CT} {mk rm : Bool} {F : Nat → Prop} {w : World} {be oe B b o : Nat} {ns : List Int} {ss : List ByteArray} {at_ : Int}
/-- The first part is seen; then what is left, in the world behind it. -/
theorem SeePre.part {t1 t2 : List CT} {cs : List C} (h : SeePre e1 e2 tab (t1 ++ t2) mk rm cs F w be oe B b o ns ss at_) :
    ∃ c1 c2, nodesRow c1 + nodesRow c2 = nodesRow cs ∧ SeePre e1 e2 tab t1 mk rm c1 F w be oe B b o ns ss at_ ∧
      ∀ w1 ns1 ss1 at1, Seen e1 e2 mk rm (nodesRow c1) (obsNRow rm c1) (obsSRow rm c1) F w be oe B ns ss at_ w1 ns1 ss1 at1 →
        ∃ c2', nodesRow c2' = nodesRow c2 ∧ SeePre e1 e2 tab t2 mk rm c2' F w1 be oe B b (o + t1.length) ns1 ss1 at1 ∧
          ∀ w2 ns2 ss2 at2, Seen e1 e2 mk rm (nodesRow c2') (obsNRow rm c2') (obsSRow rm c2') F w1 be oe B ns1 ss1 at1 w2 ns2 ss2 at2 →
            Seen e1 e2 mk rm (nodesRow cs) (obsNRow rm cs) (obsSRow rm cs) F w be oe B ns ss at_ w2 ns2 ss2 at2 := by
  obtain ⟨c1, c2, rfl, hl, k1, k2⟩ := HtRow.split t1 t2 cs h.ht
  obtain ⟨r1, r2⟩ := RdRow.split c1 c2 o h.rd
  have hn : nodesRow c1 + nodesRow c2 = nodesRow (c1 ++ c2) := (nodesRow_app c1 c2).symm
  have hl1 := h.ln; have hl2 := h.ls; have hl3 := h.la
  refine ⟨c1, c2, hn, ⟨k1, h.f, r1, h.uf, fun hm => (RfRow.split c1 c2 o (h.nf hm)).1, h.fb, h.bs, h.eye, fun hr => (RoomyRow.split c1 c2 (h.room hr)).1, by omega, by omega, h.a0, by omega⟩, ?_⟩
  intro w1 ns1 ss1 at1 hs
  obtain ⟨c2', m1, m2, m3⟩ := Rd.chgMk hs.chg.chg h.f r2
  have hnn := MkRow.nodes _ _ m1
  have e1' := hs.ln; have e2' := hs.ls; have e3' := hs.la; have e4' := hs.a0; have h0 := h.a0
  refine ⟨c2', hnn, ⟨MkRow.ht t2 c2 c2' m1 k2, h.f, by rw [← hl]; exact m3, ?_, ?_, h.fb, Nat.le_trans h.bs hs.chg.fr.size, hs.eye, fun hr => MkRow.roomy c2 c2' m1 (RoomyRow.split c1 c2 (h.room hr)).2, by omega, by omega, by omega, by omega⟩, ?_⟩
  · intro hm k hk
    have := hs.chg.chg k hk
    rw [if_pos hm] at this
    exact this.blk
  · intro hm
    have hc := m2 hm
    subst hc
    rw [← hl]
    exact Rf.monoRow (F := F) (fun k hk => by have := hs.chg.chg k hk; rw [if_neg (by simp [hm])] at this; exact this) b h.f _ _ r2 (RfRow.split c1 c2' o (h.nf hm)).2
  · intro w2 ns2 ss2 at2 ht
    have := hs.trans ht
    refine ⟨this.eye, by have := this.ln; omega, by have := this.ls; omega, this.a0, by have := this.la; omega, fun hm => ?_, this.chg⟩
    have hc := m2 hm
    subst hc
    rw [obsNRow_app, obsSRow_app]
    exact this.same hm
/-- The last part. -/
theorem SeePre.size {cts : List CT} {cs : List C} (h : SeePre e1 e2 tab cts mk rm cs F w be oe B b o ns ss at_) : b < w.heap.size := by
  have := (h.fb b h.f).1; have := h.bs; omega
end
end Go.Vt
namespace Go.Vt
open Go.RowKit
theorem HtRow.int1 {tab : Nat → List CT} {k : IntKind} {cs : List C} (h : HtRow tab [.int k] cs) : ∃ m, cs = [.int k m] ∧ k.wrap m = m := by
  match cs, h with
  | [.int k' m], h => simp only [HtRow, Ht, and_true, CT.int.injEq] at h; obtain ⟨rfl, hm⟩ := h; exact ⟨m, rfl, hm⟩
  | [.bool _], h => simp [HtRow, Ht] at h
  | [.str _], h => simp [HtRow, Ht] at h
  | [.sl ..], h => simp [HtRow, Ht] at h
  | [], h => simp [HtRow] at h
  | _ :: _ :: _, h => simp [HtRow] at h
theorem lim_ok {n k : Nat} (h : n + k ≤ lim) (hk : 1 ≤ k) : n + 1 ≤ maxLen ∧ (n + 1) * 8 ≤ 140737488355328 ∧ (n + 1) * 16 ≤ 140737488355328 := by
  simp only [lim] at h; simp only [maxLen]; omega
theorem alloc_size (w : World) (o : Obj) : (w.alloc o).heap.size = w.heap.size + 1 := by show (w.heap.push _).size = _; rw [Array.size_push]
/-- The one cell of a scalar. -/
theorem rd_int {F : Nat → Prop} {w : World} {b o : Nat} {k : IntKind} {m : Int} (h : RdRow F w b o [.int k m]) : w.cell? ⟨b, o, none⟩ = some (.int k m) := by
  simp only [RdRow, Rd, and_true] at h; obtain ⟨v, h1, rfl⟩ := h; exact h1
/-- What is left of a see-function behind its marks: the push of a number. -/
theorem seen_push {e1 e2 : Nat} {mk rm : Bool} {F : Nat → Prop} {w w' w2 : World} {be oe B : Nat} {nv nv' sv : Value} {ns : List Int} {ss : List ByteArray} {at_ at1 : Int} {x y : Int} {n : Nat} {X : Obj}
    (hne : e1 ≠ e2) (h0 : SeeChg mk F B be oe w w') (hv : EyeV e1 e2 w' be oe B nv sv ns ss mk at1 rm) (hg : (w'.alloc X).drew.grownBy w2 nv.ownBlock)
    (hr : w2.ownsRow B e1 1 nv' (ns.length + 1) (ns.map (Value.int .i64) ++ [Value.int .i64 x])) (ha : at_ ≤ at1 ∧ at1 ≤ at_ + n) (hn : 1 ≤ n) (hB : B ≤ w.heap.size) (hF : ∀ k, F k → k < B ∧ k ≠ be)
    (hs : mk = false → x = y ∧ at1 = at_) (hu : mk = true → ∀ k, F k → ∃ c e, w'.heap[k]? = some (.cells c e (0, 0))) :
    Seen e1 e2 mk rm n [y] [] F w be oe B ns ss at_ (w2.setCell ⟨be, oe, none⟩ nv') (ns ++ [x]) ss at1 := by
  have hg' : w'.grownBy w2 nv.ownBlock := ⟨hg.os, hg.tape, hg.output, Nat.le_trans (by show _ ≤ (w'.alloc X).heap.size; rw [alloc_size]; omega) hg.size, fun k hk hn => (hg.block k (by show k < (w'.alloc X).heap.size; rw [alloc_size]; omega) hn).trans (Below.heap_alloc w' X k hk)⟩
  have hsz := h0.fr.size
  have hE := hv.pushN hne hg' hr
  have hnm := hv.nameN
  have hlt := hv.lt
  refine ⟨⟨nv', sv, hE⟩, by simp; omega, by omega, ha.1, by omega, fun hm => ?_, h0.trans ⟨?_, ?_, ?_⟩⟩
  · obtain ⟨rfl, rfl⟩ := hs hm; exact ⟨rfl, by simp, rfl⟩
  · exact ((Fr.refl _ _).grown hg' (fun k hk _ => .inr (.inl (hnm k hk).1))).setCell (fun _ => .inl rfl) _
  · obtain ⟨c, e, hb, c0, _⟩ := hv.blk
    have hbe : w2.heap[be]? = w'.heap[be]? := hg'.block be hv.inHeap (fun e => by have := hnm be e.symm; omega)
    refine ⟨c, c.setIfInBounds oe nv', e, hb, heap_setCell_at (hbe.trans hb), by simp, fun i hi => ?_⟩
    rw [Array.getElem?_setIfInBounds_ne (by omega)]
  · intro k hk
    have hk1 := (hF k hk)
    have : (w2.setCell ⟨be, oe, none⟩ nv').heap[k]? = w'.heap[k]? := by
      rw [Below.heap_setCell _ _ _ _ hk1.2]
      exact hg'.block k (by omega) (fun e => by have := hnm k e.symm; omega)
    cases mk with
    | true => simp only [if_true]; exact Scal.of_same (hu rfl k hk) this
    | false => simpa using this
/-- No mark: nothing has turned. -/
theorem SeeChg.refl {mk : Bool} {F : Nat → Prop} {B be oe : Nat} {w : World} (h : ∃ c e, w.heap[be]? = some (.cells c e (0, 0))) (hu : mk = true → ∀ k, F k → ∃ c e, w.heap[k]? = some (.cells c e (0, 0))) : SeeChg mk F B be oe w w := by
  obtain ⟨c, e, h⟩ := h
  refine ⟨Fr.refl _ _, ⟨c, c, e, h, h, rfl, fun _ _ => rfl⟩, fun k hk => ?_⟩
  cases mk with
  | true => simp only [if_true]; exact Scal.refl (hu rfl k hk)
  | false => simp
/-- A mark: the count goes up, a good scalar is laid into a cell of F. -/
theorem SeeChg.mark {e1 e2 : Nat} {F : Nat → Prop} {w : World} {be oe B b o : Nat} {nv sv x u : Value} {ns : List Int} {ss : List ByteArray} {at_ at1 : Int} {rm : Bool} (hv : EyeV e1 e2 w be oe B nv sv ns ss true at_ rm)
    (hF : ∀ k, F k → k < B ∧ k ≠ be) (hb : F b) (hu : ∀ k, F k → ∃ c e, w.heap[k]? = some (.cells c e (0, 0))) (hx : w.cell? ⟨b, o, none⟩ = some x) (hl : like x u) :
    SeeChg true F B be oe w ((w.setCell ⟨be, oe + 3, none⟩ (.int .i64 at1)).setCell ⟨b, o, none⟩ u) ∧ EyeV e1 e2 ((w.setCell ⟨be, oe + 3, none⟩ (.int .i64 at1)).setCell ⟨b, o, none⟩ u) be oe B nv sv ns ss true at1 rm ∧
      ((w.setCell ⟨be, oe + 3, none⟩ (.int .i64 at1)).setCell ⟨b, o, none⟩ u).cell? ⟨b, o, none⟩ = some u ∧ (∀ k, F k → ∃ c e, ((w.setCell ⟨be, oe + 3, none⟩ (.int .i64 at1)).setCell ⟨b, o, none⟩ u).heap[k]? = some (.cells c e (0, 0))) := by
  have hb1 := hF b hb
  have hE := hv.bump at1
  have hne : b ≠ be := hb1.2
  have hx1 : (w.setCell ⟨be, oe + 3, none⟩ (.int .i64 at1)).cell? ⟨b, o, none⟩ = some x := by
    rw [World.cell?_of_block (w := w) (a := ⟨b, o, none⟩) (Below.heap_setCell _ _ _ _ hne)]; exact hx
  have hu1 : ∀ k, F k → ∃ c e, (w.setCell ⟨be, oe + 3, none⟩ (.int .i64 at1)).heap[k]? = some (.cells c e (0, 0)) := fun k hk => by
    rw [Below.heap_setCell _ _ _ _ (hF k hk).2]; exact hu k hk
  have hS := Scal.set (hu1 b hb) hx1 hl
  have hfr : Fr (fun k => k = b) (w.setCell ⟨be, oe + 3, none⟩ (.int .i64 at1)) ((w.setCell ⟨be, oe + 3, none⟩ (.int .i64 at1)).setCell ⟨b, o, none⟩ u) := Fr.setCell (S := fun k => k = b) (Fr.refl _ _) (p := ⟨b, o, none⟩) (fun _ => rfl) _
  have hch : ∀ k, F k → Scal w ((w.setCell ⟨be, oe + 3, none⟩ (.int .i64 at1)).setCell ⟨b, o, none⟩ u) k := fun k hk => by
    have h1 : Scal w (w.setCell ⟨be, oe + 3, none⟩ (.int .i64 at1)) k := Scal.of_same (hu k hk) (Below.heap_setCell _ _ _ _ (hF k hk).2)
    refine h1.trans ?_
    by_cases e : k = b
    · subst e; exact hS
    · exact Scal.of_same (hu1 k hk) (Below.heap_setCell _ _ _ _ e)
  refine ⟨⟨?_, ?_, fun k hk => by simpa using hch k hk⟩, hE.keep hfr (fun e => hne e.symm) (fun k hk _ e => by subst e; omega), ?_, fun k hk => (hch k hk).blk⟩
  · exact ((Fr.refl _ _).setCell (fun _ => .inl rfl) _).setCell (fun _ => .inr (.inr ⟨rfl, hb⟩)) _
  · obtain ⟨c, e, hbb, c0, c1, c2, c3, c4⟩ := hv.blk
    refine ⟨c, c.setIfInBounds (oe + 3) (.int .i64 at1), e, hbb, ?_, by simp, fun i hi => ?_⟩
    · rw [Below.heap_setCell _ _ _ _ (fun e => hne e.symm)]; exact heap_setCell_at hbb
    · rw [Array.getElem?_setIfInBounds_ne (by omega)]
  · exact World.cell?_setCell_same _ _ _ hx1

theorem HtRow.str1 {tab : Nat → List CT} {cs : List C} (h : HtRow tab [.str] cs) : ∃ s, cs = [.str s] ∧ s.size ≤ strMax := by
  match cs, h with
  | [.int k' m], h => simp [HtRow, Ht] at h
  | [.bool _], h => simp [HtRow, Ht] at h
  | [.str s], h => simp only [HtRow, Ht, and_true, true_and] at h; exact ⟨s, rfl, h⟩
  | [.sl ..], h => simp [HtRow, Ht] at h
  | [], h => simp [HtRow] at h
  | _ :: _ :: _, h => simp [HtRow] at h
theorem rd_str {F : Nat → Prop} {w : World} {b o : Nat} {m : ByteArray} (h : RdRow F w b o [.str m]) : w.cell? ⟨b, o, none⟩ = some (.string m) := by
  simp only [RdRow, Rd, and_true] at h; obtain ⟨v, h1, rfl⟩ := h; exact h1
/-- What is left of a see-function behind its marks: the push of a string. -/
theorem seen_pushS {e1 e2 : Nat} {mk rm : Bool} {F : Nat → Prop} {w w' w2 : World} {be oe B : Nat} {nv sv' sv : Value} {ns : List Int} {ss : List ByteArray} {at_ at1 : Int} {x y : ByteArray} {n : Nat} {X : Obj}
    (hne : e1 ≠ e2) (h0 : SeeChg mk F B be oe w w') (hv : EyeV e1 e2 w' be oe B nv sv ns ss mk at1 rm) (hg : (w'.alloc X).drew.grownBy w2 sv.ownBlock)
    (hr : w2.ownsRow B e2 1 sv' (ss.length + 1) (ss.map Value.string ++ [Value.string x])) (ha : at_ ≤ at1 ∧ at1 ≤ at_ + n) (hn : 1 ≤ n) (hB : B ≤ w.heap.size) (hF : ∀ k, F k → k < B ∧ k ≠ be)
    (hs : mk = false → x = y ∧ at1 = at_) (hu : mk = true → ∀ k, F k → ∃ c e, w'.heap[k]? = some (.cells c e (0, 0))) :
    Seen e1 e2 mk rm n [] [y] F w be oe B ns ss at_ (w2.setCell ⟨be, oe + 1, none⟩ sv') ns (ss ++ [x]) at1 := by
  have hg' : w'.grownBy w2 sv.ownBlock := ⟨hg.os, hg.tape, hg.output, Nat.le_trans (by show _ ≤ (w'.alloc X).heap.size; rw [alloc_size]; omega) hg.size, fun k hk hn => (hg.block k (by show k < (w'.alloc X).heap.size; rw [alloc_size]; omega) hn).trans (Below.heap_alloc w' X k hk)⟩
  have hsz := h0.fr.size
  have hE := hv.pushS hne hg' hr
  have hnm := hv.nameS
  have hlt := hv.lt
  refine ⟨⟨nv, sv', hE⟩, by omega, by simp; omega, ha.1, by omega, fun hm => ?_, h0.trans ⟨?_, ?_, ?_⟩⟩
  · obtain ⟨rfl, rfl⟩ := hs hm; exact ⟨by simp, rfl, rfl⟩
  · exact ((Fr.refl _ _).grown hg' (fun k hk _ => .inr (.inl (hnm k hk).1))).setCell (fun _ => .inl rfl) _
  · obtain ⟨c, e, hb, c0, _⟩ := hv.blk
    have hbe : w2.heap[be]? = w'.heap[be]? := hg'.block be hv.inHeap (fun e => by have := hnm be e.symm; omega)
    refine ⟨c, c.setIfInBounds (oe + 1) sv', e, hb, heap_setCell_at (hbe.trans hb), by simp, fun i hi => ?_⟩
    rw [Array.getElem?_setIfInBounds_ne (by omega)]
  · intro k hk
    have hk1 := (hF k hk)
    have : (w2.setCell ⟨be, oe + 1, none⟩ sv').heap[k]? = w'.heap[k]? := by
      rw [Below.heap_setCell _ _ _ _ hk1.2]
      exact hg'.block k (by omega) (fun e => by have := hnm k e.symm; omega)
    cases mk with
    | true => simp only [if_true]; exact Scal.of_same (hu rfl k hk) this
    | false => simpa using this
/-- One more mark's letter: a cell of F, and new blocks. -/
theorem SeeChg.more {F : Nat → Prop} {w wr : World} {be oe B b o : Nat} {x u : Value} {X : Obj} (h : SeeChg true F B be oe w wr) (hb : F b) (hF : ∀ k, F k → k < B ∧ k ≠ be) (hx : wr.cell? ⟨b, o, none⟩ = some x) (hl : like x u) :
    SeeChg true F B be oe w ((wr.setCell ⟨b, o, none⟩ u).alloc X).drew := by
  have h1 := h.chg b hb
  rw [if_pos rfl] at h1
  have hS := Scal.set h1.blk hx hl
  refine h.trans ⟨?_, ?_, fun k hk => ?_⟩
  · exact (((Fr.refl _ _).setCell (fun _ => .inr (.inr ⟨rfl, hb⟩)) _).alloc _).drew
  · obtain ⟨c, c', e, g1, g2, g3, g4⟩ := h.eye
    have hlt := (Array.getElem?_eq_some_iff.1 g2).1
    refine ⟨c', c', e, g2, ?_, rfl, fun _ _ => rfl⟩
    show ((wr.setCell ⟨b, o, none⟩ u).alloc X).heap[be]? = _
    rw [Below.heap_alloc _ _ _ (by simpa [World.setCell] using hlt), Below.heap_setCell _ _ _ _ (fun e => (hF b hb).2 e.symm)]
    exact g2
  · rw [if_pos rfl]
    have hk1 := h.chg k hk
    rw [if_pos rfl] at hk1
    obtain ⟨c, e, hkb⟩ := hk1.blk
    have hlt := (Array.getElem?_eq_some_iff.1 hkb).1
    have h2 : Scal wr (wr.setCell ⟨b, o, none⟩ u) k := by
      by_cases e : k = b
      · subst e; exact hS
      · exact Scal.of_same ⟨_, _, hkb⟩ (Below.heap_setCell _ _ _ _ e)
    exact h2.trans (Scal.of_same h2.blk (by show ((wr.setCell ⟨b, o, none⟩ u).alloc X).heap[k]? = _; exact Below.heap_alloc _ _ _ (by simpa [World.setCell] using hlt)))
theorem EyeV.more {e1 e2 : Nat} {wr : World} {be oe B b o : Nat} {nv sv u : Value} {ns : List Int} {ss : List ByteArray} {mk rm : Bool} {at_ : Int} {X : Obj} (hv : EyeV e1 e2 wr be oe B nv sv ns ss mk at_ rm) (hb : b < B) (hne : b ≠ be) :
    EyeV e1 e2 ((wr.setCell ⟨b, o, none⟩ u).alloc X).drew be oe B nv sv ns ss mk at_ rm :=
  hv.keep (S := fun k => k = b) ((Fr.setCell (S := fun k => k = b) (Fr.refl _ _) (p := ⟨b, o, none⟩) (fun _ => rfl) _).alloc _).drew (fun e => hne e.symm) (fun k hk _ e => by subst e; omega)
theorem wrap_i8' (n : Int) : IntKind.i8.wrap n = (n + 128) % 256 - 128 := by
  simp only [IntKind.wrap, IntKind.bits, IntKind.signed, Bool.true_and]; split <;> simp_all <;> omega
theorem wrap_i16' (n : Int) : IntKind.i16.wrap n = (n + 32768) % 65536 - 32768 := by
  simp only [IntKind.wrap, IntKind.bits, IntKind.signed, Bool.true_and]; split <;> simp_all <;> omega
theorem wrap_wrap (k : IntKind) (n : Int) : k.wrap (k.wrap n) = k.wrap n := by
  cases k <;> simp only [wrap_i8', wrap_i16', IntKind.wrap_i32, IntKind.wrap_i64, IntKind.wrap_u8, IntKind.wrap_u16, IntKind.wrap_u32, IntKind.wrap_u64] <;> omega
/-- What fits a kind other than u64 fits an int. -/
theorem wrap_small {k : IntKind} {m : Int} (h : k.wrap m = m) (hk : k ≠ .u64) : IntKind.i64.wrap m = m := by
  cases k
  case u64 => exact absurd rfl hk
  all_goals (simp only [wrap_i8', wrap_i16', IntKind.wrap_i32, IntKind.wrap_i64, IntKind.wrap_u8, IntKind.wrap_u16, IntKind.wrap_u32] at h ⊢; omega)
end Go.Vt
namespace Go.Vt
open Go.RowKit
theorem HtRow.bool1 {tab : Nat → List CT} {cs : List C} (h : HtRow tab [.bool] cs) : ∃ q, cs = [.bool q] := by
  match cs, h with
  | [.int k' m], h => simp [HtRow, Ht] at h
  | [.bool q], _ => exact ⟨q, rfl⟩
  | [.str s], h => simp [HtRow, Ht] at h
  | [.sl ..], h => simp [HtRow, Ht] at h
  | [], h => simp [HtRow] at h
  | _ :: _ :: _, h => simp [HtRow] at h
theorem rd_bool {F : Nat → Prop} {w : World} {b o : Nat} {m : Bool} (h : RdRow F w b o [.bool m]) : w.cell? ⟨b, o, none⟩ = some (.bool m) := by
  simp only [RdRow, Rd, and_true] at h; obtain ⟨v, h1, rfl⟩ := h; exact h1
theorem cell_block {w : World} {b o : Nat} {v : Value} (h : w.cell? ⟨b, o, none⟩ = some v) : ∃ c e fr, w.heap[b]? = some (.cells c e fr) := by
  simp only [World.cell?] at h
  split at h
  · rename_i hh; exact ⟨_, _, _, hh⟩
  · cases h
/-- A mark that is not counted: a good scalar is laid into a cell of F. -/
theorem SeeChg.mark0 {e1 e2 : Nat} {F : Nat → Prop} {w : World} {be oe B b o : Nat} {nv sv x u : Value} {ns : List Int} {ss : List ByteArray} {at_ : Int} {rm : Bool} (hv : EyeV e1 e2 w be oe B nv sv ns ss true at_ rm)
    (hF : ∀ k, F k → k < B ∧ k ≠ be) (hb : F b) (hu : ∀ k, F k → ∃ c e, w.heap[k]? = some (.cells c e (0, 0))) (hx : w.cell? ⟨b, o, none⟩ = some x) (hl : like x u) :
    SeeChg true F B be oe w (w.setCell ⟨b, o, none⟩ u) ∧ EyeV e1 e2 (w.setCell ⟨b, o, none⟩ u) be oe B nv sv ns ss true at_ rm ∧
      (w.setCell ⟨b, o, none⟩ u).cell? ⟨b, o, none⟩ = some u ∧ (∀ k, F k → ∃ c e, (w.setCell ⟨b, o, none⟩ u).heap[k]? = some (.cells c e (0, 0))) := by
  have hb1 := hF b hb
  have hne : b ≠ be := hb1.2
  have hS := Scal.set (hu b hb) hx hl
  have hfr : Fr (fun k => k = b) w (w.setCell ⟨b, o, none⟩ u) := Fr.setCell (S := fun k => k = b) (Fr.refl _ _) (p := ⟨b, o, none⟩) (fun _ => rfl) _
  have hch : ∀ k, F k → Scal w (w.setCell ⟨b, o, none⟩ u) k := fun k hk => by
    by_cases e : k = b
    · subst e; exact hS
    · exact Scal.of_same (hu k hk) (Below.heap_setCell _ _ _ _ e)
  refine ⟨⟨?_, ?_, fun k hk => by simpa using hch k hk⟩, hv.keep hfr (fun e => hne e.symm) (fun k hk _ e => by subst e; omega), ?_, fun k hk => (hch k hk).blk⟩
  · exact (Fr.refl _ _).setCell (fun _ => .inr (.inr ⟨rfl, hb⟩)) _
  · obtain ⟨c, e, hbb, c0, c1, c2, c3, c4⟩ := hv.blk
    exact ⟨c, c, e, hbb, by rw [Below.heap_setCell _ _ _ _ (fun e => hne e.symm)]; exact hbb, rfl, fun _ _ => rfl⟩
  · exact World.cell?_setCell_same _ _ _ hx
end Go.Vt
namespace Go.Vt
open Go.RowKit

/-- What 'all' is handed: a slice that reads as rows. -/
structure SlPre (e1 e2 : Nat) (tab : Nat → List CT) (E : Nat) (mk rm : Bool) (sz len cap : Nat) (rows : List (List C)) (v : Value) (F : Nat → Prop) (w : World) (be oe B : Nat) (ns : List Int) (ss : List ByteArray) (at_ : Int) : Prop where
  hsz : sz = (tab E).length
  ht : HtRows tab (tab E) rows
  rd : Rd F w (.sl sz len cap rows) v
  uf : mk = true → ∀ k, F k → ∃ c e, w.heap[k]? = some (.cells c e (0, 0))
  nf : mk = false → Rf w (.sl sz len cap rows) v
  fb : ∀ k, F k → k < B ∧ k ≠ be
  bs : B ≤ w.heap.size
  eye : Eye e1 e2 w be oe B ns ss mk at_ rm
  room : rm = true → rows.length = cap ∧ RoomyRows rows
  ln : ns.length + nodes (.sl sz len cap rows) ≤ lim
  ls : ss.length + nodes (.sl sz len cap rows) ≤ lim
  a0 : 0 ≤ at_
  la : at_ + nodes (.sl sz len cap rows) ≤ lim

/-- f is 'all' at elements of type E. -/
def AllOK (P : Program) (e1 e2 : Nat) (tab : Nat → List CT) (n : Nat) (f : FuncId) (E : Nat) : Prop :=
  ∀ (one : FuncId), SeeOK P e1 e2 tab n one (tab E) → (∀ args w, (callFunc one args).run P w = .ok (.enter one args) w) → ∀ (mk rm : Bool) (sz len cap : Nat) (rows : List (List C)) (v : Value) (F : Nat → Prop) (w : World) (be oe B : Nat) (ns : List Int) (ss : List ByteArray) (at_ : Int),
    nodes (.sl sz len cap rows) ≤ n + 1 → SlPre e1 e2 tab E mk rm sz len cap rows v F w be oe B ns ss at_ →
    Calls P f #[.pointer (some ⟨be, oe, none⟩), v, .func (.func one) #[] #[]] w (SeePost e1 e2 mk rm (nodes (.sl sz len cap rows)) (obsN rm (.sl sz len cap rows)) (obsS rm (.sl sz len cap rows)) F w be oe B ns ss at_)

theorem obsNRows_snoc (rm : Bool) : ∀ (i : Nat) (rows : List (List C)) (r : List C), rows[i]? = some r → obsNRows rm (i + 1) rows = obsNRows rm i rows ++ obsNRow rm r
  | 0, [], _, h => by simp at h
  | 0, x :: xs, r, h => by simp at h; subst h; cases xs <;> simp [obsNRows]
  | i + 1, [], _, h => by simp at h
  | i + 1, x :: xs, r, h => by
    rw [obsNRows, obsNRows_snoc rm i xs r (by simpa using h)]; simp [obsNRows, List.append_assoc]
theorem obsSRows_snoc (rm : Bool) : ∀ (i : Nat) (rows : List (List C)) (r : List C), rows[i]? = some r → obsSRows rm (i + 1) rows = obsSRows rm i rows ++ obsSRow rm r
  | 0, [], _, h => by simp at h
  | 0, x :: xs, r, h => by simp at h; subst h; cases xs <;> simp [obsSRows]
  | i + 1, [], _, h => by simp at h
  | i + 1, x :: xs, r, h => by
    rw [obsSRows, obsSRows_snoc rm i xs r (by simpa using h)]; simp [obsSRows, List.append_assoc]
theorem sl_addr {F : Nat → Prop} {w : World} {sz len cap : Nat} {rows : List (List C)} {a : Option Addr} (h : Rd F w (.sl sz len cap rows) (.slice a len cap)) : ∃ b o, rows ≠ [] → a = some ⟨b, o, none⟩ := by
  simp only [Rd] at h
  obtain ⟨a', h1, _, _, h4⟩ := h
  rcases h4 with h4 | ⟨b, o, e, _⟩
  · exact ⟨0, 0, fun hn => absurd h4 hn⟩
  · injection h1 with h1; exact ⟨b, o, fun _ => h1.trans e⟩
theorem HtRow.sl1 {tab : Nat → List CT} {E : Nat} {cs : List C} (h : HtRow tab [.sl E] cs) : ∃ sz len cap rows, cs = [.sl sz len cap rows] := by
  match cs, h with
  | [.int k' m], h => simp [HtRow, Ht] at h
  | [.bool _], h => simp [HtRow, Ht] at h
  | [.str s], h => simp [HtRow, Ht] at h
  | [.sl a b c d], h => exact ⟨a, b, c, d, rfl⟩
  | [], h => simp [HtRow] at h
  | _ :: _ :: _, h => simp [HtRow] at h
theorem rd_sl {F : Nat → Prop} {w : World} {b o : Nat} {c : C} (h : RdRow F w b o [c]) : ∃ v, w.cell? ⟨b, o, none⟩ = some v ∧ Rd F w c v := by
  simpa only [RdRow, and_true] using h
theorem one_row (rm : Bool) (c : C) : nodesRow [c] = nodes c ∧ obsNRow rm [c] = obsN rm c ∧ obsSRow rm [c] = obsS rm c := by simp [nodesRow, obsNRow, obsSRow]
theorem nodesRows_app : ∀ (a b : List (List C)), nodesRows (a ++ b) = nodesRows a + nodesRows b
  | [], b => by simp [nodesRows]
  | c :: cs, b => by simp only [List.cons_append, nodesRows, nodesRows_app cs b]; omega
theorem nodesRows_take (i : Nat) (rows : List (List C)) : nodesRows (rows.take i) + nodesRows (rows.drop i) = nodesRows rows := by
  rw [← nodesRows_app, List.take_append_drop]
theorem MkRows.cons {r : List C} {rs rs' : List (List C)} (h : MkRows (r :: rs) rs') : ∃ r' t', rs' = r' :: t' ∧ MkRow r r' ∧ MkRows rs t' := by simpa only [MkRows] using h
theorem HtRows.drop {tab : Nat → List CT} {ts : List CT} : ∀ (i : Nat) (rows : List (List C)), HtRows tab ts rows → HtRows tab ts (rows.drop i)
  | 0, _, h => h
  | i + 1, [], h => by simp [HtRows]
  | i + 1, r :: rs, h => by simp only [HtRows] at h; simpa using HtRows.drop i rs h.2
theorem RoomyRows.drop : ∀ (i : Nat) (rows : List (List C)), RoomyRows rows → RoomyRows (rows.drop i)
  | 0, _, h => h
  | i + 1, [], h => by simp [RoomyRows]
  | i + 1, r :: rs, h => by simp only [RoomyRows] at h; simpa using RoomyRows.drop i rs h.2

/-- Where 'all' stands behind i rows. -/
structure AllAt (e1 e2 : Nat) (mk rm : Bool) (len : Nat) (rows : List (List C)) (F : Nat → Prop) (w : World) (be oe B : Nat) (ns : List Int) (ss : List ByteArray) (at_ : Int) (b o sz i : Nat) (wr : World) : Prop where
  seen : ∃ ns' ss' at', Seen e1 e2 mk rm (1 + nodesRows (rows.take i)) ((len : Int) :: obsNRows rm i rows) (obsSRows rm i rows) F w be oe B ns ss at_ wr ns' ss' at'
  rest : i < rows.length → F b ∧ ∃ rest, MkRows (rows.drop i) rest ∧ (mk = false → rest = rows.drop i) ∧ RdRows F wr b sz (o + i * sz) rest ∧ (mk = false → RfRows wr b sz (o + i * sz) rest)

section
variable {e1 e2 : Nat} {tab : Nat → List CT} {E : Nat} {mk rm : Bool} {sz len cap : Nat} {rows : List (List C)} {v : Value} {F : Nat → Prop} {w : World} {be oe B : Nat} {ns : List Int} {ss : List ByteArray} {at_ : Int} {b o : Nat}
theorem SeePre.sl {b o : Nat} {rows : List (List C)} (h : SeePre e1 e2 tab [.sl E] mk rm [.sl sz len cap rows] F w be oe B b o ns ss at_) (hv : Rd F w (.sl sz len cap rows) v) (hx : w.cell? ⟨b, o, none⟩ = some v) :
    SlPre e1 e2 tab E mk rm sz len cap rows v F w be oe B ns ss at_ := by
  have ht := h.ht
  simp only [HtRow, Ht, and_true, CT.sl.injEq] at ht
  obtain ⟨e, he, h1, h2⟩ := ht
  subst he
  have l1 := h.ln; have l2 := h.ls; have l3 := h.la
  simp only [nodesRow, Nat.add_zero] at l1 l2 l3
  refine ⟨h1, h2, hv, h.uf, fun hm => (h.nf hm).one hx, h.fb, h.bs, h.eye, fun hr => ?_, l1, l2, h.a0, l3⟩
  have := h.room hr
  simpa only [RoomyRow, Roomy, and_true] using this
/-- The head: the length has been pushed. -/
theorem AllAt.start {a : Option Addr} {w1 : World} {ns1 : List Int} {ss1 : List ByteArray} {a1 : Int} (h : SlPre e1 e2 tab E mk rm sz len cap rows (.slice a len cap) F w be oe B ns ss at_)
    (ha : rows ≠ [] → a = some ⟨b, o, none⟩) (hs : Seen e1 e2 mk rm 1 [(len : Int)] [] F w be oe B ns ss at_ w1 ns1 ss1 a1) : AllAt e1 e2 mk rm len rows F w be oe B ns ss at_ b o sz 0 w1 := by
  refine ⟨⟨ns1, ss1, a1, by simpa [nodesRows, obsNRows, obsSRows] using hs⟩, fun hi => ?_⟩
  have hne : rows ≠ [] := by intro e; subst e; simp at hi
  have ha := ha hne
  have hr := h.rd
  simp only [Rd] at hr
  obtain ⟨a', h1, h2, h3, h4⟩ := hr
  rcases h4 with h4 | ⟨b', o', e, hF, h4⟩
  · exact absurd h4 hne
  · rw [e, ha] at h1; simp at h1; obtain ⟨rfl, rfl⟩ := h1
    obtain ⟨rs, k1, k2, k3⟩ := Rd.chgMkRows hs.chg.chg hF h4
    refine ⟨hF, rs, by simpa using k1, by simpa using k2, by simpa using k3, fun hm => ?_⟩
    have hc := k2 hm
    subst hc
    have hnf := h.nf hm
    simp only [Rf] at hnf
    rcases hnf with hnf | ⟨_, _, b2, o2, e2, hnf⟩
    · exact absurd hnf hne
    · first | rw [ha hne] at e2 | rw [ha] at e2
      injection e2 with e2
      injection e2 with e2
      injection e2 with e2 e3
      subst e2 e3
      rw [Nat.zero_mul, Nat.add_zero]
      exact Rf.monoRows (F := F) (fun k hk => by have := hs.chg.chg k hk; rw [if_neg (by simp [hm])] at this; exact this) _ sz hF _ _ h4 hnf
/-- One row more. -/
theorem AllAt.next {i : Nat} {wr : World} (h : SlPre e1 e2 tab E mk rm sz len cap rows v F w be oe B ns ss at_) (hA : AllAt e1 e2 mk rm len rows F w be oe B ns ss at_ b o sz i wr) (hi : i < rows.length) :
    ∃ cs ns1 ss1 a1, nodesRow cs < nodes (.sl sz len cap rows) ∧ SeePre e1 e2 tab (tab E) mk rm cs F wr be oe B b (o + i * sz) ns1 ss1 a1 ∧
      ∀ (e : Ending) (w2 : World), SeePost e1 e2 mk rm (nodesRow cs) (obsNRow rm cs) (obsSRow rm cs) F wr be oe B ns1 ss1 a1 e w2 → e = .returned (.tuple #[]) ∧ AllAt e1 e2 mk rm len rows F w be oe B ns ss at_ b o sz (i + 1) w2 := by
  obtain ⟨ns1, ss1, a1, hs⟩ := hA.seen
  obtain ⟨hF, rest, m1, m2, m3, m4⟩ := hA.rest hi
  obtain ⟨r, hr⟩ : ∃ r, rows[i]? = some r := ⟨rows[i], by simp [hi]⟩
  have hd : rows.drop i = r :: rows.drop (i + 1) := by
    rw [List.drop_eq_getElem_cons hi]; rw [List.getElem?_eq_getElem hi] at hr; injection hr with hr; rw [hr]
  have ht := HtRows.drop i rows h.ht
  rw [hd] at m1 m2 ht
  obtain ⟨r', t', rfl, q1, q2⟩ := m1.cons
  simp only [RdRows] at m3
  simp only [HtRows] at ht
  have hn := MkRow.nodes _ _ q1
  have htake := nodesRows_take i rows
  rw [hd] at htake
  simp only [nodesRows] at htake
  have l1 := h.ln; have l2 := h.ls; have l3 := h.la
  have hnn : nodes (.sl sz len cap rows) = 1 + nodesRows rows := by simp only [nodes]
  rw [hnn] at l1 l2 l3
  have s1 := hs.ln; have s2 := hs.ls; have s3 := hs.la; have s4 := hs.a0; have a0 := h.a0
  refine ⟨r', ns1, ss1, a1, by rw [hnn]; omega, ⟨MkRow.ht _ _ _ q1 ht.1, hF, m3.1.2, ?_, fun hm => by have := m4 hm; simp only [RfRows] at this; exact this.1, h.fb, Nat.le_trans h.bs hs.chg.fr.size, hs.eye, ?_, by omega, by omega, by omega, by omega⟩, ?_⟩
  · intro hm k hk
    have := hs.chg.chg k hk
    rw [if_pos hm] at this
    exact this.blk
  · intro hrm
    have := RoomyRows.drop i rows (h.room hrm).2
    rw [hd] at this
    simp only [RoomyRows] at this
    exact MkRow.roomy _ _ q1 this.1
  · rintro e w2 ⟨rfl, ns2, ss2, a2, hs2⟩
    refine ⟨rfl, ⟨ns2, ss2, a2, ?_⟩, fun hi' => ⟨hF, ?_⟩⟩
    · have := hs.trans hs2
      have htk : nodesRows (rows.take (i + 1)) = nodesRows (rows.take i) + (1 + nodesRow r) := by
        have h2 := nodesRows_take (i + 1) rows; omega
      refine ⟨this.eye, by have := this.ln; omega, by have := this.ls; omega, this.a0, by have := this.la; omega, fun hm => ?_, this.chg⟩
      have hc := m2 hm
      injection hc with hc _
      subst hc
      rw [obsNRows_snoc rm i rows _ hr, obsSRows_snoc rm i rows _ hr]
      simpa using this.same hm
    · obtain ⟨rs, k1, k2, k3⟩ := Rd.chgMkRows hs2.chg.chg hF m3.2
      refine ⟨rs, MkRows.trans _ _ _ q2 k1, fun hm => ?_, ?_, fun hm => ?_⟩
      · have hc := m2 hm
        injection hc with _ hc
        rw [k2 hm, hc]
      · rw [show o + (i + 1) * sz = o + i * sz + sz from by rw [Nat.succ_mul]; omega]; exact k3
      · have hm4 := m4 hm
        simp only [RfRows] at hm4
        have hc := k2 hm
        subst hc
        rw [show o + (i + 1) * sz = o + i * sz + sz from by rw [Nat.succ_mul]; omega]
        exact Rf.monoRows (F := F) (fun k hk => by have := hs2.chg.chg k hk; rw [if_neg (by simp [hm])] at this; exact this) _ sz hF _ _ m3.2 hm4.2
/-- All rows have been seen. -/
theorem AllAt.done {wr : World} (hA : AllAt e1 e2 mk rm len rows F w be oe B ns ss at_ b o sz (if rm = true then rows.length else len) wr) :
    SeePost e1 e2 mk rm (nodes (.sl sz len cap rows)) (obsN rm (.sl sz len cap rows)) (obsS rm (.sl sz len cap rows)) F w be oe B ns ss at_ (.returned (.tuple #[])) wr := by
  obtain ⟨ns1, ss1, a1, hs⟩ := hA.seen
  have htake := nodesRows_take (if rm = true then rows.length else len) rows
  refine ⟨rfl, ns1, ss1, a1, hs.eye, ?_, ?_, hs.a0, ?_, fun hm => by simpa [obsN, obsS] using hs.same hm, hs.chg⟩
  · have := hs.ln; simp only [nodes]; omega
  · have := hs.ls; simp only [nodes]; omega
  · have := hs.la; simp only [nodes]; omega
end
end Go.Vt
