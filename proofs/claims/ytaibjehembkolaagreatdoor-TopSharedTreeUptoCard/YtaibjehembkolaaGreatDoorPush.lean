/- What an eye notes, pushed behind what it has noted. -/
import Derived.Test.YtaibjehembkolaaGreatDoorSee
import Derived.WalkKit
import Derived.Deep.AppendLies
namespace Go.Vt
open Go.RowKit
theorem HtRow.int1 {tab : Nat → List CT} {k : IntKind} {cs : List C} (h : HtRow tab [.int k] cs) : ∃ m, cs = [.int k m] ∧ k.wrap m = m := by
  match cs, h with
  | [.int k' m], h => simp only [HtRow, Ht, and_true, CT.int.injEq] at h; obtain ⟨rfl, hm⟩ := h; exact ⟨m, rfl, hm⟩
  | [.bool _], h => simp [HtRow, Ht] at h
  | [.str _], h => simp [HtRow, Ht] at h
  | [.sl ..], h => simp [HtRow, Ht] at h
  | [], h => simp [HtRow] at h
  | _ :: _ :: _, h => simp [HtRow] at h
theorem lim_ok {n k : Nat} (h : n + k ≤ lim) (hk : 1 ≤ k) : n + 1 ≤ maxLen ∧ (n + 1) * 8 ≤ 140737488355328 ∧ (n + 1) * 16 ≤ 140737488355328 := by
  simp only [lim] at h; simp only [maxLen]; omega
theorem alloc_size (w : World) (o : Obj) : (w.alloc o).heap.size = w.heap.size + 1 := by show (w.heap.push _).size = _; rw [Array.size_push]
/-- The one cell of a scalar. -/
theorem rd_int {F : Nat → Prop} {w : World} {b o : Nat} {k : IntKind} {m : Int} (h : RdRow F w b o [.int k m]) : w.cell? ⟨b, o, none⟩ = some (.int k m) := by
  simp only [RdRow, Rd, and_true] at h; obtain ⟨v, h1, rfl⟩ := h; exact h1
/-- What is left of a see-function behind its marks: the push of a number. -/
theorem seen_push {e1 e2 : Nat} {mk rm : Bool} {F : Nat → Prop} {w w' w2 : World} {be oe B : Nat} {nv nv' sv : Value} {ns : List Int} {ss : List ByteArray} {at_ at1 : Int} {x y : Int} {n : Nat} {X : Obj}
    (hne : e1 ≠ e2) (h0 : SeeChg mk F B be oe w w') (hv : EyeV e1 e2 w' be oe B nv sv ns ss mk at1 rm) (hg : (w'.alloc X).drew.grownBy w2 nv.ownBlock)
    (hr : w2.ownsRow B e1 1 nv' (ns.length + 1) (ns.map (Value.int .i64) ++ [Value.int .i64 x])) (ha : at_ ≤ at1 ∧ at1 ≤ at_ + n) (hn : 1 ≤ n) (hB : B ≤ w.heap.size) (hF : ∀ k, F k → k < B ∧ k ≠ be)
    (hs : mk = false → x = y ∧ at1 = at_) (hu : mk = true → ∀ k, F k → ∃ c e, w'.heap[k]? = some (.cells c e (0, 0))) :
    Seen e1 e2 mk rm n [y] [] F w be oe B ns ss at_ (w2.setCell ⟨be, oe, none⟩ nv') (ns ++ [x]) ss at1 := by
  have hg' : w'.grownBy w2 nv.ownBlock := ⟨hg.os, hg.tape, hg.output, Nat.le_trans (by show _ ≤ (w'.alloc X).heap.size; rw [alloc_size]; omega) hg.size, fun k hk hn => (hg.block k (by show k < (w'.alloc X).heap.size; rw [alloc_size]; omega) hn).trans (Below.heap_alloc w' X k hk)⟩
  have hsz := h0.fr.size
  have hE := hv.pushN hne hg' hr
  have hnm := hv.nameN
  have hlt := hv.lt
  refine ⟨⟨nv', sv, hE⟩, by simp; omega, by omega, ha.1, by omega, fun hm => ?_, h0.trans ⟨?_, ?_, ?_⟩⟩
  · obtain ⟨rfl, rfl⟩ := hs hm; exact ⟨rfl, by simp, rfl⟩
  · exact ((Fr.refl _ _).grown hg' (fun k hk _ => .inr (.inl (hnm k hk).1))).setCell (fun _ => .inl rfl) _
  · obtain ⟨c, e, hb, c0, _⟩ := hv.blk
    have hbe : w2.heap[be]? = w'.heap[be]? := hg'.block be hv.inHeap (fun e => by have := hnm be e.symm; omega)
    refine ⟨c, c.setIfInBounds oe nv', e, hb, heap_setCell_at (hbe.trans hb), by simp, fun i hi => ?_⟩
    rw [Array.getElem?_setIfInBounds_ne (by omega)]
  · intro k hk
    have hk1 := (hF k hk)
    have : (w2.setCell ⟨be, oe, none⟩ nv').heap[k]? = w'.heap[k]? := by
      rw [Below.heap_setCell _ _ _ _ hk1.2]
      exact hg'.block k (by omega) (fun e => by have := hnm k e.symm; omega)
    cases mk with
    | true => simp only [if_true]; exact Scal.of_same (hu rfl k hk) this
    | false => simpa using this
/-- No mark: nothing has turned. -/
theorem SeeChg.refl {mk : Bool} {F : Nat → Prop} {B be oe : Nat} {w : World} (h : ∃ c e, w.heap[be]? = some (.cells c e (0, 0))) (hu : mk = true → ∀ k, F k → ∃ c e, w.heap[k]? = some (.cells c e (0, 0))) : SeeChg mk F B be oe w w := by
  obtain ⟨c, e, h⟩ := h
  refine ⟨Fr.refl _ _, ⟨c, c, e, h, h, rfl, fun _ _ => rfl⟩, fun k hk => ?_⟩
  cases mk with
  | true => simp only [if_true]; exact Scal.refl (hu rfl k hk)
  | false => simp
/-- A mark: the count goes up, a good scalar is laid into a cell of F. -/
theorem SeeChg.mark {e1 e2 : Nat} {F : Nat → Prop} {w : World} {be oe B b o : Nat} {nv sv x u : Value} {ns : List Int} {ss : List ByteArray} {at_ at1 : Int} {rm : Bool} (hv : EyeV e1 e2 w be oe B nv sv ns ss true at_ rm)
    (hF : ∀ k, F k → k < B ∧ k ≠ be) (hb : F b) (hu : ∀ k, F k → ∃ c e, w.heap[k]? = some (.cells c e (0, 0))) (hx : w.cell? ⟨b, o, none⟩ = some x) (hl : like x u) :
    SeeChg true F B be oe w ((w.setCell ⟨be, oe + 3, none⟩ (.int .i64 at1)).setCell ⟨b, o, none⟩ u) ∧ EyeV e1 e2 ((w.setCell ⟨be, oe + 3, none⟩ (.int .i64 at1)).setCell ⟨b, o, none⟩ u) be oe B nv sv ns ss true at1 rm ∧
      ((w.setCell ⟨be, oe + 3, none⟩ (.int .i64 at1)).setCell ⟨b, o, none⟩ u).cell? ⟨b, o, none⟩ = some u ∧ (∀ k, F k → ∃ c e, ((w.setCell ⟨be, oe + 3, none⟩ (.int .i64 at1)).setCell ⟨b, o, none⟩ u).heap[k]? = some (.cells c e (0, 0))) := by
  have hb1 := hF b hb
  have hE := hv.bump at1
  have hne : b ≠ be := hb1.2
  have hx1 : (w.setCell ⟨be, oe + 3, none⟩ (.int .i64 at1)).cell? ⟨b, o, none⟩ = some x := by
    rw [World.cell?_of_block (w := w) (a := ⟨b, o, none⟩) (Below.heap_setCell _ _ _ _ hne)]; exact hx
  have hu1 : ∀ k, F k → ∃ c e, (w.setCell ⟨be, oe + 3, none⟩ (.int .i64 at1)).heap[k]? = some (.cells c e (0, 0)) := fun k hk => by
    rw [Below.heap_setCell _ _ _ _ (hF k hk).2]; exact hu k hk
  have hS := Scal.set (hu1 b hb) hx1 hl
  have hfr : Fr (fun k => k = b) (w.setCell ⟨be, oe + 3, none⟩ (.int .i64 at1)) ((w.setCell ⟨be, oe + 3, none⟩ (.int .i64 at1)).setCell ⟨b, o, none⟩ u) := Fr.setCell (S := fun k => k = b) (Fr.refl _ _) (p := ⟨b, o, none⟩) (fun _ => rfl) _
  have hch : ∀ k, F k → Scal w ((w.setCell ⟨be, oe + 3, none⟩ (.int .i64 at1)).setCell ⟨b, o, none⟩ u) k := fun k hk => by
    have h1 : Scal w (w.setCell ⟨be, oe + 3, none⟩ (.int .i64 at1)) k := Scal.of_same (hu k hk) (Below.heap_setCell _ _ _ _ (hF k hk).2)
    refine h1.trans ?_
    by_cases e : k = b
    · subst e; exact hS
    · exact Scal.of_same (hu1 k hk) (Below.heap_setCell _ _ _ _ e)
  refine ⟨⟨?_, ?_, fun k hk => by simpa using hch k hk⟩, hE.keep hfr (fun e => hne e.symm) (fun k hk _ e => by subst e; omega), ?_, fun k hk => (hch k hk).blk⟩
  · exact ((Fr.refl _ _).setCell (fun _ => .inl rfl) _).setCell (fun _ => .inr (.inr ⟨rfl, hb⟩)) _
  · obtain ⟨c, e, hbb, c0, c1, c2, c3, c4⟩ := hv.blk
    refine ⟨c, c.setIfInBounds (oe + 3) (.int .i64 at1), e, hbb, ?_, by simp, fun i hi => ?_⟩
    · rw [Below.heap_setCell _ _ _ _ (fun e => hne e.symm)]; exact heap_setCell_at hbb
    · rw [Array.getElem?_setIfInBounds_ne (by omega)]
  · exact World.cell?_setCell_same _ _ _ hx1

theorem HtRow.str1 {tab : Nat → List CT} {cs : List C} (h : HtRow tab [.str] cs) : ∃ s, cs = [.str s] ∧ s.size ≤ strMax := by
  match cs, h with
  | [.int k' m], h => simp [HtRow, Ht] at h
  | [.bool _], h => simp [HtRow, Ht] at h
  | [.str s], h => simp only [HtRow, Ht, and_true, true_and] at h; exact ⟨s, rfl, h⟩
  | [.sl ..], h => simp [HtRow, Ht] at h
  | [], h => simp [HtRow] at h
  | _ :: _ :: _, h => simp [HtRow] at h
theorem rd_str {F : Nat → Prop} {w : World} {b o : Nat} {m : ByteArray} (h : RdRow F w b o [.str m]) : w.cell? ⟨b, o, none⟩ = some (.string m) := by
  simp only [RdRow, Rd, and_true] at h; obtain ⟨v, h1, rfl⟩ := h; exact h1
/-- What is left of a see-function behind its marks: the push of a string. -/
theorem seen_pushS {e1 e2 : Nat} {mk rm : Bool} {F : Nat → Prop} {w w' w2 : World} {be oe B : Nat} {nv sv' sv : Value} {ns : List Int} {ss : List ByteArray} {at_ at1 : Int} {x y : ByteArray} {n : Nat} {X : Obj}
    (hne : e1 ≠ e2) (h0 : SeeChg mk F B be oe w w') (hv : EyeV e1 e2 w' be oe B nv sv ns ss mk at1 rm) (hg : (w'.alloc X).drew.grownBy w2 sv.ownBlock)
    (hr : w2.ownsRow B e2 1 sv' (ss.length + 1) (ss.map Value.string ++ [Value.string x])) (ha : at_ ≤ at1 ∧ at1 ≤ at_ + n) (hn : 1 ≤ n) (hB : B ≤ w.heap.size) (hF : ∀ k, F k → k < B ∧ k ≠ be)
    (hs : mk = false → x = y ∧ at1 = at_) (hu : mk = true → ∀ k, F k → ∃ c e, w'.heap[k]? = some (.cells c e (0, 0))) :
    Seen e1 e2 mk rm n [] [y] F w be oe B ns ss at_ (w2.setCell ⟨be, oe + 1, none⟩ sv') ns (ss ++ [x]) at1 := by
  have hg' : w'.grownBy w2 sv.ownBlock := ⟨hg.os, hg.tape, hg.output, Nat.le_trans (by show _ ≤ (w'.alloc X).heap.size; rw [alloc_size]; omega) hg.size, fun k hk hn => (hg.block k (by show k < (w'.alloc X).heap.size; rw [alloc_size]; omega) hn).trans (Below.heap_alloc w' X k hk)⟩
  have hsz := h0.fr.size
  have hE := hv.pushS hne hg' hr
  have hnm := hv.nameS
  have hlt := hv.lt
  refine ⟨⟨nv, sv', hE⟩, by omega, by simp; omega, ha.1, by omega, fun hm => ?_, h0.trans ⟨?_, ?_, ?_⟩⟩
  · obtain ⟨rfl, rfl⟩ := hs hm; exact ⟨by simp, rfl, rfl⟩
  · exact ((Fr.refl _ _).grown hg' (fun k hk _ => .inr (.inl (hnm k hk).1))).setCell (fun _ => .inl rfl) _
  · obtain ⟨c, e, hb, c0, _⟩ := hv.blk
    have hbe : w2.heap[be]? = w'.heap[be]? := hg'.block be hv.inHeap (fun e => by have := hnm be e.symm; omega)
    refine ⟨c, c.setIfInBounds (oe + 1) sv', e, hb, heap_setCell_at (hbe.trans hb), by simp, fun i hi => ?_⟩
    rw [Array.getElem?_setIfInBounds_ne (by omega)]
  · intro k hk
    have hk1 := (hF k hk)
    have : (w2.setCell ⟨be, oe + 1, none⟩ sv').heap[k]? = w'.heap[k]? := by
      rw [Below.heap_setCell _ _ _ _ hk1.2]
      exact hg'.block k (by omega) (fun e => by have := hnm k e.symm; omega)
    cases mk with
    | true => simp only [if_true]; exact Scal.of_same (hu rfl k hk) this
    | false => simpa using this
/-- One more mark's letter: a cell of F, and new blocks. -/
theorem SeeChg.more {F : Nat → Prop} {w wr : World} {be oe B b o : Nat} {x u : Value} {X : Obj} (h : SeeChg true F B be oe w wr) (hb : F b) (hF : ∀ k, F k → k < B ∧ k ≠ be) (hx : wr.cell? ⟨b, o, none⟩ = some x) (hl : like x u) :
    SeeChg true F B be oe w ((wr.setCell ⟨b, o, none⟩ u).alloc X).drew := by
  have h1 := h.chg b hb
  rw [if_pos rfl] at h1
  have hS := Scal.set h1.blk hx hl
  refine h.trans ⟨?_, ?_, fun k hk => ?_⟩
  · exact (((Fr.refl _ _).setCell (fun _ => .inr (.inr ⟨rfl, hb⟩)) _).alloc _).drew
  · obtain ⟨c, c', e, g1, g2, g3, g4⟩ := h.eye
    have hlt := (Array.getElem?_eq_some_iff.1 g2).1
    refine ⟨c', c', e, g2, ?_, rfl, fun _ _ => rfl⟩
    show ((wr.setCell ⟨b, o, none⟩ u).alloc X).heap[be]? = _
    rw [Below.heap_alloc _ _ _ (by simpa [World.setCell] using hlt), Below.heap_setCell _ _ _ _ (fun e => (hF b hb).2 e.symm)]
    exact g2
  · rw [if_pos rfl]
    have hk1 := h.chg k hk
    rw [if_pos rfl] at hk1
    obtain ⟨c, e, hkb⟩ := hk1.blk
    have hlt := (Array.getElem?_eq_some_iff.1 hkb).1
    have h2 : Scal wr (wr.setCell ⟨b, o, none⟩ u) k := by
      by_cases e : k = b
      · subst e; exact hS
      · exact Scal.of_same ⟨_, _, hkb⟩ (Below.heap_setCell _ _ _ _ e)
    exact h2.trans (Scal.of_same h2.blk (by show ((wr.setCell ⟨b, o, none⟩ u).alloc X).heap[k]? = _; exact Below.heap_alloc _ _ _ (by simpa [World.setCell] using hlt)))
theorem EyeV.more {e1 e2 : Nat} {wr : World} {be oe B b o : Nat} {nv sv u : Value} {ns : List Int} {ss : List ByteArray} {mk rm : Bool} {at_ : Int} {X : Obj} (hv : EyeV e1 e2 wr be oe B nv sv ns ss mk at_ rm) (hb : b < B) (hne : b ≠ be) :
    EyeV e1 e2 ((wr.setCell ⟨b, o, none⟩ u).alloc X).drew be oe B nv sv ns ss mk at_ rm :=
  hv.keep (S := fun k => k = b) ((Fr.setCell (S := fun k => k = b) (Fr.refl _ _) (p := ⟨b, o, none⟩) (fun _ => rfl) _).alloc _).drew (fun e => hne e.symm) (fun k hk _ e => by subst e; omega)
theorem wrap_i8' (n : Int) : IntKind.i8.wrap n = (n + 128) % 256 - 128 := by
  simp only [IntKind.wrap, IntKind.bits, IntKind.signed, Bool.true_and]; split <;> simp_all <;> omega
theorem wrap_i16' (n : Int) : IntKind.i16.wrap n = (n + 32768) % 65536 - 32768 := by
  simp only [IntKind.wrap, IntKind.bits, IntKind.signed, Bool.true_and]; split <;> simp_all <;> omega
theorem wrap_wrap (k : IntKind) (n : Int) : k.wrap (k.wrap n) = k.wrap n := by
  cases k <;> simp only [wrap_i8', wrap_i16', IntKind.wrap_i32, IntKind.wrap_i64, IntKind.wrap_u8, IntKind.wrap_u16, IntKind.wrap_u32, IntKind.wrap_u64] <;> omega
/-- What fits a kind other than u64 fits an int. -/
theorem wrap_small {k : IntKind} {m : Int} (h : k.wrap m = m) (hk : k ≠ .u64) : IntKind.i64.wrap m = m := by
  cases k
  case u64 => exact absurd rfl hk
  all_goals (simp only [wrap_i8', wrap_i16', IntKind.wrap_i32, IntKind.wrap_i64, IntKind.wrap_u8, IntKind.wrap_u16, IntKind.wrap_u32] at h ⊢; omega)
end Go.Vt
