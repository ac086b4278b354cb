/- Laws of no one program: maps with text keys, empty appends, regions in any order, ranges over functions. -/
import Derived.Control
import Derived.MapKept
import Derived.Below
import Derived.Laws.Tables
import Derived.Laws.NewBlocks
import Derived.Deep.Draws
import Derived.Laws.Append
import Derived.Laws.AppendOwn
import Derived.Deep.AppendLies
import Derived.Orders
import Derived.Tactics
import Derived.RangeFuncFrom
import Derived.RangeFuncNested
namespace Go.Vt
open Go
/-- A loop's body, up to n rounds of it. -/
def Rounds (P : Program) (c : Code) (Q : Exit → Act → World → Prop) : Nat → Act → World → Prop
  | 0, _, _ => False
  | n + 1, a, w => c.wp P (Exit.then (Rounds P c Q n) Q) a w
/-- A loop, one round of it at a time. -/
theorem Rounds.loop {P : Program} {Q : Exit → Act → World → Prop} {c : Code} (n : Nat) {a : Act} {w : World} (h : Rounds P c Q n a w) : (Code.loop c).wp P Q a w := by
  intro b k cs
  have key : ∀ n a w, Rounds P c Q n a w →
      ∃ e a' w', Q e a' w' ∧ Arrives P (lone (b.at a (.code c :: .inLoop c :: k)) cs w) b k cs e a' w' := by
    intro n
    induction n with
    | zero => intro a w h; exact h.elim
    | succ n ih =>
      intro a w h
      obtain ⟨e, a₁, w₁, hq, harr⟩ := h b (.inLoop c :: k) cs
      cases e with
      | normal =>
        obtain ⟨e₂, a₂, w₂, hq₂, harr₂⟩ := ih a₁ w₁ hq
        exact ⟨e₂, a₂, w₂, hq₂, .of_steps (Steps.trans harr (.one step_inLoop)) harr₂⟩
      | exit id => exact ⟨_, a₁, w₁, hq, .pass (x := .inLoop c) rfl (fun _ _ => .inl (by simp)) harr⟩
      | goto l => exact ⟨_, a₁, w₁, hq, .pass (x := .inLoop c) rfl (fun _ _ => .inl (by simp)) harr⟩
      | ret => exact ⟨_, a₁, w₁, hq, .pass (x := .inLoop c) rfl (fun _ _ => .inl (by simp)) harr⟩
      | panic ch => exact ⟨_, a₁, w₁, hq, .pass (x := .inLoop c) rfl (fun _ _ => .inl (by simp)) harr⟩
      | outgrown => exact ⟨_, a₁, w₁, hq, .pass (x := .inLoop c) rfl (fun _ _ => .inl (by simp)) harr⟩
  obtain ⟨e, a', w', hq, harr⟩ := key n a w h
  exact ⟨e, a', w', hq, .of_steps (.one step_loop) harr⟩
end Go.Vt
namespace Go.Vt
open Go.RowKit
section
variable {P : Program}
theorem wpList_built {ops : Array Oper} {rest : List Oper} {o : Oper} {a : Act} {w : World} {Q : Exit → Act → World → Prop} (hg : o.guard = none) (t : TypeId) (parts : Array (Nat × Operand)) (ho : o.op = .build t parts) (cells : Array Value)
    (hc : P.built t (parts.map fun (i, x) => (i, a.eval x)).toList = some cells) (h : wpList P ops Q rest (a.put o.dst (.agg cells)) w) : wpList P ops Q (o :: rest) a w :=
  wpList_build hg t parts ho (by rw [hc]; rfl) (by rw [hc]; exact h)
/-- A block that lies, and what lay below B. -/
def Lies (B : Nat) (w w' : World) (r : Nat) (o : Obj) : Prop := w'.heap[r]? = some o ∧ Below B w w'
theorem Lies.new {w W : World} {o : Obj} (h : w.alloc o = W) : Lies w.heap.size w W w.heap.size o := by
  subst h; exact ⟨heap_alloc_new w o, (Below.refl _ _).alloc (Nat.le_refl _) _⟩
theorem Lies.keep {B r : Nat} {w w1 w2 : World} {o : Obj} (h : Lies B w w1 r o) (hB : B ≤ r) (hb : Below w1.heap.size w1 w2) : Lies B w w2 r o := by
  have hlt : r < w1.heap.size := (Array.getElem?_eq_some_iff.1 h.1).1
  exact ⟨(hb.block r hlt).trans h.1, h.2.trans (hb.mono (by omega))⟩
theorem Lies.lt {B r : Nat} {w w1 : World} {o : Obj} (h : Lies B w w1 r o) : r < w1.heap.size := (Array.getElem?_eq_some_iff.1 h.1).1
theorem Lies.alloc {B r : Nat} {w w1 : World} {o : Obj} (h : Lies B w w1 r o) (hB : B ≤ r) (x : Obj) : Lies B w (w1.alloc x) r o := h.keep hB ((Below.refl _ _).alloc (Nat.le_refl _) x)
theorem Lies.next {B : Nat} {w w1 : World} (h : Below B w w1) (hB : B ≤ w1.heap.size) (x : Obj) : Lies B w (w1.alloc x) w1.heap.size x := ⟨heap_alloc_new w1 x, h.alloc hB x⟩
theorem Lies.next' {B r : Nat} {w w1 : World} {o : Obj} (h : Lies B w w1 r o) (x : Obj) (hB : B ≤ r := by omega) : Lies B w (w1.alloc x) w1.heap.size x := Lies.next h.2 (by have := h.lt; omega) x
theorem Lies.row {B r : Nat} {w w1 : World} {old : Array Value} {t : TypeId} (h : Lies B w w1 r (.cells old t (0, 0))) (hB : B ≤ r) (cs : Array Value) : Lies B w (w1.setRow r cs) r (.cells cs t (0, 0)) :=
  ⟨setRow_heap _ _ _ _ _ _ h.1, h.2.os, h.2.tape, h.2.output, by rw [setRow_size]; exact h.2.size, fun k hk => by rw [setRow_other _ _ _ _ (by omega)]; exact h.2.block k hk⟩
theorem Lies.row_other {B r g : Nat} {w w1 : World} {o : Obj} (h : Lies B w w1 r o) (hB : B ≤ g) (hg : r ≠ g) (cs : Array Value) : Lies B w (w1.setRow g cs) r o :=
  ⟨(setRow_other _ _ _ _ hg).trans h.1, h.2.os, h.2.tape, h.2.output, by rw [setRow_size]; exact h.2.size, fun k hk => by rw [setRow_other _ _ _ _ (by omega)]; exact h.2.block k hk⟩
theorem Lies.cell {B r : Nat} {w w1 : World} {cs : Array Value} {t : TypeId} (h : Lies B w w1 r (.cells cs t (0, 0))) (hB : B ≤ r) (i : Nat) (v : Value) : Lies B w (w1.setCell ⟨r, i, none⟩ v) r (.cells (cs.setIfInBounds i v) t (0, 0)) := by
  rw [setCell_eq_setRow w1 r i cs t (0, 0) v h.1]; exact h.row hB _
theorem Lies.cell_other {B r g : Nat} {w w1 : World} {o : Obj} (h : Lies B w w1 r o) (hB : B ≤ g) (hg : r ≠ g) (i : Nat) (v : Value) : Lies B w (w1.setCell ⟨g, i, none⟩ v) r o := by
  have k : ∀ j, j ≠ g → (w1.setCell ⟨g, i, none⟩ v).heap[j]? = w1.heap[j]? := fun j hj => by simp [World.setCell, Array.getElem?_modify, Ne.symm hj]
  exact ⟨(k r hg).trans h.1, h.2.os, h.2.tape, h.2.output, by simpa [World.setCell] using h.2.size, fun j hj => (k j (by omega)).trans (h.2.block j hj)⟩
theorem Lies.grown {B r : Nat} {w w1 w2 : World} {o : Obj} {own : Option Nat} (h : Lies B w w1 r o) (hB : B ≤ r) (hg : w1.grownBy w2 own) (hn : own ≠ some r) (hlow : ∀ k, own = some k → B ≤ k) : Lies B w w2 r o := by
  have key : ∀ k, k < w1.heap.size → own ≠ some k → w2.heap[k]? = w1.heap[k]? := fun k hk hne => hg.block k hk (Ne.symm hne)
  have hlt := h.lt
  exact ⟨(key r hlt hn).trans h.1, hg.os.trans h.2.os, hg.tape.trans h.2.tape, hg.output.trans h.2.output, Nat.le_trans h.2.size hg.size, fun k hk => (key k (by omega) (by intro e; have := hlow k e; omega)).trans (h.2.block k hk)⟩
theorem grownBy_setCell (w : World) (k j : Nat) (v : Value) : w.grownBy (w.setCell ⟨k, j, none⟩ v) (some k) :=
  ⟨rfl, rfl, rfl, by simp [World.setCell], fun i _ hi => by
    have hne : k ≠ i := by intro e; subst e; exact hi rfl
    simp [World.setCell, Array.getElem?_modify, hne]⟩
theorem new_cells {w : World} {r : Nat} {cs : Array Value} {t : TypeId} (h : w.heap[r]? = some (.cells cs t (0, 0))) : ∀ j u, cs.toList[j]? = some u → w.cell? ((⟨r, 0, none⟩ : Addr).add j) = some u := fun j u hj => by
  have hadd : (⟨r, 0, none⟩ : Addr).add j = ⟨r, j, none⟩ := by unfold Addr.add; split <;> simp_all
  rw [hadd, cell_of_row _ _ _ _ _ _ h]; simpa using hj
theorem Lies.out1 {B r : Nat} {w w1 : World} {o : Obj} (h : Lies B w w1 r o) : w1.heap[r]? = some o := h.1
theorem kept_blk {W W' : World} {b : Nat} {o : Obj} (hb : Below W.heap.size W W') (h : W.heap[b]? = some o) : W'.heap[b]? = some o := (hb.block b (Array.getElem?_eq_some_iff.1 h).1).trans h
theorem blk_ne {W : World} {b b' : Nat} {c c' : Array Value} {t t' : TypeId} {f f' : Nat × Nat} (h : W.heap[b]? = some (.cells c t f)) (h' : W.heap[b']? = some (.cells c' t' f')) (ht : t ≠ t') : b' ≠ b := by
  intro e; subst e; rw [h] at h'; injection h' with h'; injection h' with _ h'; exact ht h'
theorem Lies.here {B r : Nat} {w w1 : World} {x : Obj} (hr : w1.heap.size = r) (hB : B ≤ r) (h : Below B w w1) : Lies B w (w1.alloc x) r x := by
  subst hr; exact Lies.next h hB x
theorem below_drew {B : Nat} {w w1 : World} (h : Below B w w1) : Below B w w1.drew := ⟨h.os, h.tape, h.output, h.size, h.block⟩
theorem below_alloc {B : Nat} {w w1 : World} (x : Obj) (h : Below B w w1) (hB : B ≤ w1.heap.size) : Below B w (w1.alloc x) := h.alloc hB x
theorem Lies.drewN {B r : Nat} {w w1 : World} {o : Obj} (h : Lies B w w1 r o) (n : Nat) : Lies B w (w1.drewN n) r o := ⟨h.1, h.2.os, h.2.tape, h.2.output, h.2.size, h.2.block⟩
theorem Lies.drew {B r : Nat} {w w1 : World} {o : Obj} (h : Lies B w w1 r o) : Lies B w w1.drew r o := ⟨h.1, h.2.os, h.2.tape, h.2.output, h.2.size, h.2.block⟩
theorem wpList_makeMap {ops : Array Oper} {rest : List Oper} {o : Oper} {a : Act} {w : World} {Q : Exit → Act → World → Prop} (hg : o.guard = none) (t : TypeId) (ho : o.op = .makeMap t none)
    (h : ∀ W, Lies w.heap.size w W w.heap.size (.map #[] 0) → wpList P ops Q rest (a.put o.dst (.map (some w.heap.size))) W) : wpList P ops Q (o :: rest) a w :=
  wpList_plain hg fun _ hK => by
    unfold Oper.wp execOp
    have hn : (newObj (.map #[] 0)).run P w = .ok w.heap.size (w.alloc (.map #[] 0)) := rfl
    simp only [ho, Option.map_none, Instr.makeMap, Sem.run_bind, Sem.run_pure, hn, Result.andThen_ok]
    exact hK _ _ (h _ (Lies.new rfl))
theorem run_checkKey_str {w : World} {K : TypeId} {s : ByteArray} {e : Bool} (hK : P.underlying K = some .string) (n : Nat) : (Instr.checkKey e (n + 1) K (.string s)).run P w = .ok () w := by
  simp only [Instr.checkKey, Sem.run_bind, run_underlying (P := P) hK w, Result.andThen_ok]; rfl
/-- The key is no string of the list. -/
theorem run_insert_str {w : World} {T K E : TypeId} {r clock : Nat} {es : Array MapEntry} {s : ByteArray} {v : Value} (hT : P.underlying T = some (.map K E)) (hK : P.underlying K = some .string) (hr : w.heap[r]? = some (.map es clock))
    (hn : Instr.findNow .string (.string s) es.toList 0 = some none) :
    (Instr.mapUpdate T (.map (some r)) (.string s) v).run P w = .ok () { w with heap := w.heap.setIfInBounds r (.map (es.push { key := .string s, val := v, born := clock }) (clock + 1)) } := by
  have h1 := run_underlying (P := P) hT w
  have h2 := run_underlying (P := P) hK w
  have h3 : (Instr.checkKey false 10000 K (.string s)).run P w = .ok () w := run_checkKey_str hK 9999
  have h5 : (getObj r).run P w = .ok (.map es clock) w := by simp [getObj, Sem.run, hr]
  have h6 (o : Obj) : (setObj r o).run P w = .ok () { w with heap := w.heap.setIfInBounds r o } := by simp [setObj, Sem.run, hr]
  have h4 : (Instr.findKey K (.string s) es.toList).run P w = .ok none w := by
    simp only [Instr.findKey, Sem.run_bind, h2, Result.andThen_ok, hn]; rfl
  simp only [Instr.mapUpdate, Sem.run_bind, h1, Result.andThen_ok, h5, h3, h4, h6]
theorem wpList_insert_str {ops : Array Oper} {rest : List Oper} {o : Oper} {a : Act} {w w0 : World} {Q : Exit → Act → World → Prop} (hg : o.guard = none) (T : TypeId) (m k x : Operand) (ho : o.op = .insert T m k x) {K E : TypeId} (hT : P.underlying T = some (.map K E)) (hK : P.underlying K = some .string)
    {B r clock : Nat} {es : Array MapEntry} {s : ByteArray} (hr : Lies B w0 w r (.map es clock)) (hB : B ≤ r) (hm : a.eval m = .map (some r)) (hk : a.eval k = .string s)
    (hn : Instr.findNow .string (.string s) es.toList 0 = some none)
    (h : ∀ W, Lies B w0 W r (.map (es.push { key := .string s, val := a.eval x, born := clock }) (clock + 1)) → wpList P ops Q rest (a.put o.dst undef) W) : wpList P ops Q (o :: rest) a w :=
  wpList_plain hg fun _ hK' => by
    unfold Oper.wp execOp
    have hlt : r < w.heap.size := (Array.getElem?_eq_some_iff.1 hr.1).1
    simp only [ho, hm, hk, Sem.run_bind, run_insert_str hT hK hr.1 hn, Sem.run_pure, Result.andThen_ok]
    refine hK' _ _ (h _ ⟨by simp [hlt], hr.2.os, hr.2.tape, hr.2.output, by simpa using hr.2.size, fun j hj => ?_⟩)
    rw [← hr.2.block j hj]
    exact Array.getElem?_setIfInBounds_ne (by omega)
theorem run_lookup_str {w : World} {T K E : TypeId} {r clock i : Nat} {es : Array MapEntry} {s : ByteArray} {v : Value} (hT : P.underlying T = some (.map K E)) (hK : P.underlying K = some .string) (hr : w.heap[r]? = some (.map es clock))
    (hn : Instr.findNow .string (.string s) es.toList 0 = some (some (i, v))) : (Instr.lookup T (.map (some r)) (.string s) true).run P w = .ok (.tuple #[v, .bool true]) w := by
  have h1 := run_underlying (P := P) hT w
  have h2 := run_underlying (P := P) hK w
  have h3 : (Instr.checkKey es.isEmpty 10000 K (.string s)).run P w = .ok () w := run_checkKey_str hK 9999
  have h5 : (getObj r).run P w = .ok (.map es clock) w := by simp [getObj, Sem.run, hr]
  have h4 : (Instr.findKey K (.string s) es.toList).run P w = .ok (some (i, v)) w := by
    simp only [Instr.findKey, Sem.run_bind, h2, Result.andThen_ok, hn]; rfl
  simp only [Instr.lookup, Sem.run_bind, h1, Result.andThen_ok, h5, Sem.run_pure, h3, h4, if_true]
end
end Go.Vt
namespace Go.Vt
open Go.RowKit
/-- The blocks of X are as they were. -/
structure BelowX (X : Nat → Prop) (w w' : World) : Prop where
  os : w'.os = w.os
  tape : w'.tape = w.tape
  output : w'.output = w.output
  size : w.heap.size ≤ w'.heap.size
  dom : ∀ k, X k → k < w.heap.size
  block : ∀ k, X k → w'.heap[k]? = w.heap[k]?
theorem BelowX.refl {X : Nat → Prop} {w : World} (h : ∀ k, X k → k < w.heap.size) : BelowX X w w := ⟨rfl, rfl, rfl, Nat.le_refl _, h, fun _ _ => rfl⟩
theorem BelowX.trans {X : Nat → Prop} {w w1 w2 : World} (h : BelowX X w w1) (hb : Below w1.heap.size w1 w2) : BelowX X w w2 :=
  ⟨hb.os.trans h.os, hb.tape.trans h.tape, hb.output.trans h.output, Nat.le_trans h.size hb.size, h.dom, fun k hk => (hb.block k (Nat.lt_of_lt_of_le (h.dom k hk) h.size)).trans (h.block k hk)⟩
def LiesX (X : Nat → Prop) (w w' : World) (r : Nat) (o : Obj) : Prop := w'.heap[r]? = some o ∧ BelowX X w w'
section
variable {X : Nat → Prop} {w w1 w2 : World} {r g : Nat} {o : Obj}
theorem LiesX.lt (h : LiesX X w w1 r o) : r < w1.heap.size := (Array.getElem?_eq_some_iff.1 h.1).1
theorem LiesX.new (h : LiesX X w w1 r o) {k : Nat} (hk : w1.heap.size ≤ k) : ¬ X k := fun hx => by have := h.2.dom k hx; have := h.2.size; omega
theorem LiesX.keep (h : LiesX X w w1 r o) (hb : Below w1.heap.size w1 w2) : LiesX X w w2 r o := ⟨(hb.block r h.lt).trans h.1, h.2.trans hb⟩
theorem LiesX.alloc (h : LiesX X w w1 r o) (x : Obj) : LiesX X w (w1.alloc x) r o := h.keep ((Below.refl _ _).alloc (Nat.le_refl _) x)
theorem LiesX.next' (h : LiesX X w w1 r o) (x : Obj) : LiesX X w (w1.alloc x) w1.heap.size x := ⟨heap_alloc_new w1 x, (h.alloc x).2⟩
theorem LiesX.drew (h : LiesX X w w1 r o) : LiesX X w w1.drew r o := ⟨h.1, h.2.os, h.2.tape, h.2.output, h.2.size, h.2.dom, h.2.block⟩
theorem BelowX.row {X : Nat → Prop} {w w1 : World} (h : BelowX X w w1) {g : Nat} (hg : ¬ X g) (cs : Array Value) : BelowX X w (w1.setRow g cs) :=
  ⟨h.os, h.tape, h.output, by rw [setRow_size]; exact h.size, h.dom, fun k hk => by have hne : k ≠ g := (by intro e; subst e; exact hg hk); rw [setRow_other _ _ _ _ hne]; exact h.block k hk⟩
theorem LiesX.row {old : Array Value} {t : TypeId} (h : LiesX X w w1 r (.cells old t (0, 0))) (hr : ¬ X r) (cs : Array Value) : LiesX X w (w1.setRow r cs) r (.cells cs t (0, 0)) := ⟨setRow_heap _ _ _ _ _ _ h.1, h.2.row hr cs⟩
theorem LiesX.row_other (h : LiesX X w w1 r o) (hg : ¬ X g) (hn : r ≠ g) (cs : Array Value) : LiesX X w (w1.setRow g cs) r o := ⟨(setRow_other _ _ _ _ hn).trans h.1, h.2.row hg cs⟩
theorem LiesX.cell {cs : Array Value} {t : TypeId} (h : LiesX X w w1 r (.cells cs t (0, 0))) (hr : ¬ X r) (i : Nat) (v : Value) : LiesX X w (w1.setCell ⟨r, i, none⟩ v) r (.cells (cs.setIfInBounds i v) t (0, 0)) := by
  rw [setCell_eq_setRow w1 r i cs t (0, 0) v h.1]; exact h.row hr _
theorem LiesX.cell_other (h : LiesX X w w1 r o) (hg : ¬ X g) (hn : r ≠ g) (i : Nat) (v : Value) : LiesX X w (w1.setCell ⟨g, i, none⟩ v) r o := by
  have k : ∀ j, j ≠ g → (w1.setCell ⟨g, i, none⟩ v).heap[j]? = w1.heap[j]? := fun j hj => by simp [World.setCell, Array.getElem?_modify, Ne.symm hj]
  exact ⟨(k r hn).trans h.1, h.2.os, h.2.tape, h.2.output, by simpa [World.setCell] using h.2.size, h.2.dom, fun j hj => (k j (by intro e; subst e; exact hg hj)).trans (h.2.block j hj)⟩
end
end Go.Vt
namespace Go.Vt
open Go.RowKit
theorem heap_drew_alloc_new (w : World) (o : Obj) : (w.alloc o).drew.heap[w.heap.size]? = some o := heap_alloc_new w o
section
variable {P : Program}
/-- An append onto nothing: what is new lies in a new block. -/
theorem wpList_append_nil {ops : Array Oper} {rest : List Oper} {o : Oper} {a : Act} {w : World} {Q : Exit → Act → World → Prop} (hgd : o.guard = none) (s x : Operand) (t : TypeId)
    (ho : o.op = .call { callee := .builtin .append, args := #[s, x], argTypes := #[t, t] }) (e : TypeId) {i : TypeInfo} {z : Value} {size : Nat} (ht : P.underlying t = some (.slice e)) (hi : P.info? e = some i) (hz : i.zero = some z) (hs : i.size = size)
    (hsv : a.eval s = .slice none 0 0) (ad : Addr) (n c : Nat) (news : List Value) (hx : a.eval x = .slice (some ad) n c) (hl : news.length = n * size) (hnews : ∀ j v, news[j]? = some v → w.cell? (ad.add j) = some v)
    (h0 : 0 < n) (h63 : (n : Int) ≤ 9223372036854775807) (h48 : n * i.bytes ≤ 281474976710656)
    (h : ∀ cap W, n ≤ cap → Below w.heap.size w W → w.heap.size < W.heap.size → (∀ j v, news[j]? = some v → W.cell? ⟨w.heap.size, j, none⟩ = some v) → wpList P ops Q rest (a.put o.dst (.slice (some ⟨w.heap.size, 0, none⟩) n cap)) W) : wpList P ops Q (o :: rest) a w :=
  wpList_plain hgd fun _ hK => by
    subst hs
    have hr := run_append_nil (P := P) w t o.type e i z ht hi hz ad n c news hl hnews h0 h63 h48
    have hcap : n ≤ grownCap w n 0 e := grownCap_ge w n 0 e
    unfold Oper.wp execOp
    simp only [ho, resolve, invoke, builtin, Sem.run_bind, Sem.run_pure, Result.andThen_ok, List.map_toArray, List.map_cons, List.map_nil, hsv, hx, hr]
    refine hK _ _ (h _ _ hcap ((⟨rfl, rfl, rfl, Nat.le_refl _, fun _ _ => rfl⟩ : Below w.heap.size w w.drew).alloc (Nat.le_refl _) _) (by simp) (fun j v hj => ?_))
    have hb := heap_alloc_new w.drew (Obj.cells (news.toArray ++ Builtin.zeroCells z.cells (grownCap w n 0 e - n)) e)
    refine (cell_of_row _ _ j _ _ _ hb).trans ?_
    have hlt := (List.getElem?_eq_some_iff.1 hj).1
    rw [Array.getElem?_append_left (by simpa using hlt)]
    simpa using hj
end
end Go.Vt
namespace Go.Vt
open Go
/-- A frame of n slots, by a function. -/
def mk (n : Nat) (t : Nat → Value) : Array Value := ((List.range n).map t).toArray
theorem mk_size (n : Nat) (t : Nat → Value) : (mk n t).size = n := by simp [mk]
theorem mk_lit (A : Array Value) (n : Nat) (h : A.size = n) : A = mk n (fun k => A.getD k undef) := by
  subst h
  apply Array.ext
  · simp [mk]
  · intro i h1 h2; simp [mk, h1]
def upd (t : Nat → Value) (d : Nat) (v : Value) : Nat → Value := fun k => if d = k then v else t k
/-- The slots that are not written hold what they held. -/
def Unw (ds : List Nat) (A : Array Value) (t : Nat → Value) : Prop := ∀ k, ds.elem k = false → t k = A.getD k undef
theorem Unw.upd {ds : List Nat} {A : Array Value} {t : Nat → Value} (h : Unw ds A t) (d : Nat) (v : Value) (hd : ds.elem d = true) : Unw ds A (upd t d v) := fun k hk => by
  have : d ≠ k := by intro e; subst e; rw [hd] at hk; cases hk
  simp only [Vt.upd, this, if_false]
  exact h k hk
/-- Of whom an operation waits, whatever the order. -/
def depsOf (o : Oper) : List Nat := (o.after.toList.filter (Region.binds .any)).map (·.on)
/-- One operation's end, the region's post else. -/
def StepQ (n : Nat) (df : List Deferred) (Q : Exit → Act → World → Prop) (R : (Nat → Value) → World → Prop) : Exit → Act → World → Prop
  | .normal, a, w => ∃ t, a = ⟨mk n t, df⟩ ∧ R t w
  | x, a, w => Q x a w
def StepOK (P : Program) (ops : Array Oper) (Q : Exit → Act → World → Prop) (n : Nat) (df : List Deferred) (Inv : (Nat → Bool) → (Nat → Value) → World → Prop) (i : Nat) (o : Oper) : Prop :=
  ∀ L t w, Inv L t w → L i = false → (∀ k, (depsOf o).elem k = true → L k = true) → ∀ R : (Nat → Value) → World → Prop, (∀ t' w', Inv (fun k => k == i || L k) t' w' → R t' w') → wpList P ops (StepQ n df Q R) [o] ⟨mk n t, df⟩ w
def StepsOK (P : Program) (ops : Array Oper) (Q : Exit → Act → World → Prop) (n : Nat) (df : List Deferred) (Inv : (Nat → Bool) → (Nat → Value) → World → Prop) : Nat → List Oper → Prop
  | _, [] => True
  | i, o :: rest => StepOK P ops Q n df Inv i o ∧ StepsOK P ops Q n df Inv (i + 1) rest
section
variable {P : Program} {ops : Array Oper} {Q : Exit → Act → World → Prop} {n : Nat} {df : List Deferred} {Inv : (Nat → Bool) → (Nat → Value) → World → Prop}
theorem StepsOK.cons {i j : Nat} {o : Oper} {rest : List Oper} (hj : j = i + 1) (h : StepOK P ops Q n df Inv i o) (r : StepsOK P ops Q n df Inv j rest) : StepsOK P ops Q n df Inv i (o :: rest) := by
  subst hj; exact ⟨h, r⟩
theorem StepsOK.nil {i : Nat} : StepsOK P ops Q n df Inv i [] := trivial
theorem StepsOK.get : ∀ (l : List Oper) (i j : Nat) (o : Oper), StepsOK P ops Q n df Inv i l → l[j]? = some o → StepOK P ops Q n df Inv (i + j) o
  | [], _, _, _, _, h => by simp at h
  | x :: xs, i, 0, o, h, ho => by simp at ho; subst ho; exact h.1
  | x :: xs, i, j + 1, o, h, ho => by
    have := StepsOK.get xs (i + 1) j o h.2 (by simpa using ho)
    rwa [Nat.add_assoc, Nat.add_comm 1 j] at this
theorem upon_swap {o : Oper} {a : Act} {K : Act → World → Prop} {R : (Nat → Value) → World → Prop} {r : Result Next} (h : o.upon P a K (StepQ n df Q R) r) : o.upon P a K Q r := by
  cases r with
  | ok x w' =>
    cases x <;> simp only [Oper.upon] at h ⊢ <;> first
      | exact h
      | exact h.mono fun e w'' he => by cases e <;> first | exact he | (obtain ⟨a, w, hh⟩ := he; exact ⟨a, w, hh⟩)
  | halt x w' => cases x <;> first | exact h | exact h.elim
theorem step_swap {i : Nat} {o : Oper} {a : Act} {w : World} {R : (Nat → Value) → World → Prop} (ho : ops[i]? = some o) (h : wpList P ops (StepQ n df Q R) [o] a w) : wpOp P ops Q i (fun a' w' => ∃ t, a' = ⟨mk n t, df⟩ ∧ R t w') a w := by
  simp only [wpList] at h
  simp only [wpOp, ho]
  split
  · rename_i hw
    simp only [hw, if_true] at h
    rcases h with h | ⟨h1, b, u, h2⟩
    · exact .inl (upon_swap h)
    · exact .inr ⟨h1, b, u, h2⟩
  · rename_i hw
    simp only [hw] at h
    exact h
theorem acyc_ready {ops : Array Oper} (hac : (List.range ops.size).all (fun i => (ops[i]?).all fun o => (depsOf o).all (· < i)) = true) {listed : Array Bool} (hs : listed.size = ops.size) (hr : Region.ready .any ops listed = []) : ∀ i, i < ops.size → listed.getD i false = true := by
  intro i
  induction i using Nat.strongRecOn with
  | _ i ih =>
    intro hi
    cases hl : listed.getD i false with
    | true => rfl
    | false =>
      exfalso
      have hmem : i ∈ Region.ready .any ops listed := by
        simp only [Region.ready, List.mem_filter, List.mem_range]
        refine ⟨hi, ?_⟩
        have hl' : listed.getD i true = false := by
          have : i < listed.size := by omega
          simp [Array.getD, this] at hl ⊢
          exact hl
        have hget : ops[i]? = some ops[i] := Array.getElem?_eq_getElem hi
        simp only [hl', Bool.not_false, Bool.true_and, hget, Option.map_some, Option.getD_some, Array.all_eq_true_iff_forall_mem]
        intro e he
        cases hb : Region.binds .any e with
        | false => simp
        | true =>
          have h1 := (List.all_eq_true.1 hac) i (List.mem_range.2 hi)
          simp only [hget, Option.all_some] at h1
          have h2 := (List.all_eq_true.1 h1) e.on (by simp only [depsOf, List.mem_map, List.mem_filter]; exact ⟨e, ⟨by simpa using he, hb⟩, rfl⟩)
          have h3 : e.on < i := by simpa using h2
          simp [ih e.on h3 (by omega)]
      rw [hr] at hmem
      simp at hmem
theorem ready_spec {ops : Array Oper} {listed : Array Bool} {i : Nat} (h : i ∈ Region.ready .any ops listed) : ∃ o, ops[i]? = some o ∧ listed.getD i true = false ∧ ∀ k, (depsOf o).elem k = true → listed.getD k false = true := by
  simp only [Region.ready, List.mem_filter, List.mem_range] at h
  obtain ⟨hi, h2⟩ := h
  have hget : ops[i]? = some ops[i] := Array.getElem?_eq_getElem hi
  simp only [hget, Option.map_some, Option.getD_some, Bool.and_eq_true, Bool.not_eq_true', Array.all_eq_true_iff_forall_mem] at h2
  refine ⟨ops[i], hget, h2.1, fun k hk => ?_⟩
  have hk' := List.mem_of_elem_eq_true hk
  simp only [depsOf, List.mem_map, List.mem_filter] at hk'
  obtain ⟨e, ⟨he, hb⟩, rfl⟩ := hk'
  have := h2.2 e (by simpa using he)
  simpa [hb] using this
/-- A region that draws its order, by what holds of any set of its operations that have been carried out. -/
theorem wp_region_inv {id : Nat} (hm : P.follows .mixedOrders = true) (hac : (List.range ops.size).all (fun i => (ops[i]?).all fun o => (depsOf o).all (· < i)) = true) {A : Array Value} {w : World} (hn : A.size = n)
    (h0 : Inv (fun _ => false) (fun k => A.getD k undef) w.drew) (hstep : StepsOK P ops Q n df Inv 0 ops.toList)
    (hend : ∀ L t w', Inv L t w' → (∀ i, i < ops.size → L i = true) → Q .normal ⟨mk n t, df⟩ w') : (Code.region id ops true).wp P Q ⟨A, df⟩ w := by
  have key : ∀ (fuel : Nat) (listed : Array Bool) (t : Nat → Value) (w' : World), listed.size = ops.size → (listed.toList.filter (· == false)).length ≤ fuel → Inv (fun k => listed.getD k false) t w' → wpAny P .any ops Q fuel listed ⟨mk n t, df⟩ w' := by
    intro fuel
    induction fuel with
    | zero =>
      intro listed t w' hs hc hI
      have hall : ∀ i, i < ops.size → listed.getD i false = true := by
        intro i hi
        have hi' : i < listed.size := by omega
        cases hl : listed.getD i false with
        | true => rfl
        | false =>
          exfalso
          have hmem : false ∈ listed.toList.filter (· == false) := by
            simp only [List.mem_filter, beq_self_eq_true, and_true, Array.mem_toList_iff]
            simp [Array.getD, hi'] at hl
            exact hl ▸ Array.getElem_mem hi'
          have := List.length_pos_of_mem hmem
          omega
      refine ⟨?_, hend _ _ _ hI hall⟩
      apply List.eq_nil_iff_forall_not_mem.2
      intro i hi
      obtain ⟨o, ho, hl, _⟩ := ready_spec hi
      have hlt : i < ops.size := (Array.getElem?_eq_some_iff.1 ho).1
      have h1 := hall i hlt
      have : i < listed.size := by omega
      simp [Array.getD, this] at hl h1
      rw [hl] at h1; cases h1
    | succ fuel ih =>
      intro listed t w' hs hc hI
      refine ⟨fun hr => hend _ _ _ hI (acyc_ready hac hs hr), fun i hi => ?_⟩
      obtain ⟨o, ho, hl, hd⟩ := ready_spec hi
      have hlt : i < ops.size := (Array.getElem?_eq_some_iff.1 ho).1
      have hlt' : i < listed.size := by omega
      have hl' : listed.getD i false = false := by simp [Array.getD, hlt'] at hl ⊢; exact hl
      have hst := StepsOK.get ops.toList 0 i o hstep (by simpa using ho)
      rw [Nat.zero_add] at hst
      refine wpOp_mono ?_ (step_swap ho (hst _ t w' hI hl' hd _ fun _ _ h => h))
      rintro a1 w1 ⟨t1, rfl, hI1⟩
      have hfun : (fun k => (listed.setIfInBounds i true).getD k false) = fun k => k == i || listed.getD k false := by
        funext k
        by_cases hk : k = i
        · subst hk; simp [Array.getD, hlt']
        · by_cases hk2 : k < listed.size
          · simp [Array.getD, hk2, hk, Ne.symm hk]
          · simp [Array.getD, hk2, hk]
      refine ih _ t1 w1 (by simpa using hs) ?_ (hfun ▸ hI1)
      have hlen : ((listed.setIfInBounds i true).toList.filter (· == false)).length < (listed.toList.filter (· == false)).length := by
        have hx : listed.toList[i]? = some false := by
          simp [Array.getD, hlt'] at hl'
          simp [hlt', hl']
        rw [Array.toList_setIfInBounds]
        exact count_set listed.toList i hx
      omega
  have hA : (⟨A, df⟩ : Act) = ⟨mk n (fun k => A.getD k undef), df⟩ := by rw [← mk_lit A n hn]
  rw [hA]
  refine wp_region_any hm (key ops.size _ _ _ (by simp) (by simp) ?_)
  have : (fun k => (Array.replicate ops.size false).getD k false) = fun _ => false := by
    funext k
    by_cases hk : k < ops.size <;> simp [Array.getD, hk]
  rw [this]
  exact h0
where
  count_set : ∀ (l : List Bool) (i : Nat), l[i]? = some false → ((l.set i true).filter (· == false)).length < (l.filter (· == false)).length
  | [], i, h => by simp at h
  | x :: xs, 0, h => by simp at h; subst h; simp
  | x :: xs, i + 1, h => by
    have := count_set xs i (by simpa using h)
    cases x <;> simp <;> simpa using this
/-- The same, and the slots that are not written are told. -/
theorem wp_region_plan {id : Nat} (ds : List Nat) (n : Nat) (Inv : (Nat → Bool) → (Nat → Value) → World → Prop) (hm : P.follows .mixedOrders = true) (hac : (List.range ops.size).all (fun i => (ops[i]?).all fun o => (depsOf o).all (· < i)) = true) {A : Array Value} {w : World} (hn : A.size = n)
    (h0 : Inv (fun _ => false) (fun k => A.getD k undef) w.drew) (hstep : StepsOK P ops Q n df (fun L t w => Unw ds A t ∧ Inv L t w) 0 ops.toList)
    (hend : ∀ L t w', Unw ds A t → Inv L t w' → (∀ i, i < ops.size → L i = true) → Q .normal ⟨mk n t, df⟩ w') : (Code.region id ops true).wp P Q ⟨A, df⟩ w :=
  wp_region_inv (Inv := fun L t w => Unw ds A t ∧ Inv L t w) hm hac hn ⟨fun _ _ => rfl, h0⟩ hstep fun L t w' h => hend L t w' h.1 h.2
end
end Go.Vt
namespace Go.Vt
open Go Go.RowKit
variable {F : Fence} {n : Nat} {P : Program}
/-- What a walk behind the loop may lean on: it abides the turn of the block sb, and of blocks that are no cells, from B on. -/
def Firm (B sb : Nat) (I : World → Prop) : Prop := ∀ W W' row, I W → W.grownBy W' row → (∀ r, row = some r → r = sb ∨ (B ≤ r ∧ ∃ o : Obj, W.heap[r]? = some o ∧ o.isCells = false)) → I W'
theorem Firm.alloc {B sb : Nat} {I : World → Prop} (h : Firm B sb I) {W : World} (o : Obj) (hi : I W) : I (W.alloc o) := h W _ none hi (World.grownBy_alloc W o none) (fun r e => by cases e)
theorem Firm.putObj {B sb : Nat} {I : World → Prop} (h : Firm B sb I) {W : World} {l : Nat} {o : Obj} (o' : Obj) (hi : I W) (hB : B ≤ l) (hl : W.heap[l]? = some o) (ho : o.isCells = false) : I (W.putObj l o') :=
  h W _ (some l) hi (grownBy_putObj' W l o') (fun r e => by cases e; exact .inr ⟨hB, o, hl, ho⟩)
theorem firm_blk {B sb k : Nat} {cs : Array Value} {t : TypeId} {f : Nat × Nat} (hk : k ≠ sb) : Firm B sb (fun W => W.heap[k]? = some (.cells cs t f)) := fun W W' row h hg hr =>
  (hg.block k (Array.getElem?_eq_some_iff.1 h).1 (fun e => by
    rcases hr k e.symm with h1 | ⟨_, o, h1, h2⟩
    · exact hk h1
    · rw [h] at h1; injection h1 with h1; subst h1; simp [Obj.isCells] at h2)).trans h
theorem firm_below {B sb m : Nat} {w0 : World} (hm : m ≤ w0.heap.size) (hB : m ≤ B) (hs : m ≤ sb) : Firm B sb (fun W => Below m w0 W) := fun W W' row h hg hr =>
  h.grown hg (Nat.le_trans hm h.size) (fun k e => by
    rcases hr k e with h1 | ⟨h1, _⟩ <;> omega)
theorem Firm.and {B sb : Nat} {I J : World → Prop} (h : Firm B sb I) (h' : Firm B sb J) : Firm B sb (fun W => I W ∧ J W) := fun W W' row hi hg hr => ⟨h W W' row hi.1 hg hr, h' W W' row hi.2 hg hr⟩
theorem Firm.ex {β : Type} {B sb : Nat} {I : β → World → Prop} (h : ∀ x, Firm B sb (I x)) : Firm B sb (fun W => ∃ x, I x W) := fun W W' row ⟨x, hi⟩ hg hr => ⟨x, h x W W' row hi hg hr⟩
theorem Firm.of {B sb : Nat} {p : Prop} {I : World → Prop} (h : p → Firm B sb I) : Firm B sb (fun W => p ∧ I W) := fun W W' row hi hg hr => ⟨hi.1, h hi.1 W W' row hi.2 hg hr⟩
/-- A range over a function that hands out one element, and writes the block sb of its own. -/
theorem wpIn_rangeFunc_one {g : Operand} {ps : Array Tmp} {assign body : Code} {Q : Exit → Act → World → Prop} {a : Act} {w : World}
    (hro : F.round = none) (h1 : 1 ≤ n) {gf : Nat} {lb : Array Value} (hg : a.eval g = .func (.func gf) #[] lb) (hFg : F.fn gf) (eg : ∀ args w, (callFunc gf args).run P w = .ok (.enter gf args) w)
    (args : Array Value) (sb : Nat) (hsb : sb < w.heap.size) (hps : args.size = ps.size)
    (hseq : ∀ (l : Nat) (J0 J1 : World → Prop) (W : World), (∀ A B row, J0 A → A.grownBy B row → (∀ r, row = some r → r = sb) → J0 B) → (∀ A B row, J1 A → A.grownBy B row → (∀ r, row = some r → r = sb) → J1 B) →
      (∀ W1, J0 W1 → YieldAt F (n - 1 - 1) P l args W1 fun e W' => e = .returned (.bool true) ∧ J1 W' ∧ W'.heap[sb]? = W1.heap[sb]?) → J0 W → W.heap[sb]? = w.heap[sb]? →
      CallsIn F (n - 1) P gf (#[.func (.yield l) #[] #[]] ++ lb) W fun e W' => (∃ v, e = .returned v) ∧ J1 W')
    (I0 I1 : World → Prop) (hI0 : Firm w.heap.size sb I0) (hI1 : Firm w.heap.size sb I1) (h0 : I0 w) (a₁ : Act)
    (hassign : ∀ (l : Nat) (W : World) (K : Act → World → Prop), K a₁ W →
      assign.wpIn (F.inRound l) (n - 1 - 1) P (Exit.then K (fun _ _ _ => False)) { tmps := (ps.zip args).foldl (fun t (p, v) => t.setIfInBounds p v) a.tmps, defers := [] } W)
    (hbody : ∀ (l : Nat) (W : World), I0 W → sb < W.heap.size → body.wpIn (F.inRound l) (n - 1 - 1) P (fun e _ W' => e = .normal ∧ KeepsOthers W W' ∧ I1 W' ∧ W'.heap[sb]? = W.heap[sb]?) a₁ W)
    (hdone : ∀ (D : Nat) (W : World), w.heap.size ≤ D → I1 W → W.heap[D]? = some (.deferred (some [])) → Q .normal { a with defers := { target := .collected D, args := #[] } :: a.defers } W) :
    (Code.rangeFunc g ps assign body).wpIn F n P Q a w := by
  refine wpIn_rangeFunc ?_
  intro fn hfn
  rw [hro]
  obtain ⟨rec, hrec⟩ : ∃ rec : LoopState → Option Code → Loop, rec = fun st pe => { state := st, pending := pe, fn, tmps := a.tmps, params := ps, assign, body, defers := w.heap.size } := ⟨_, rfl⟩
  obtain ⟨W1, hW1⟩ : ∃ W1, (w.alloc (.deferred (some []))).alloc (.loop (rec .ready none)) = W1 := ⟨_, rfl⟩
  have hL1 : W1.heap[w.heap.size + 1]? = some (.loop (rec .ready none)) := by
    rw [← hW1]; have := World.alloc_heap_new (w.alloc (.deferred (some []))) (.loop (rec .ready none)); rwa [World.size_alloc] at this
  have hK1 : W1.heap[w.heap.size]? = some (.deferred (some [])) := by
    rw [← hW1]; exact (Below.heap_alloc _ _ _ (by simp)).trans (World.alloc_heap_new w _)
  have hI1' : I0 W1 := by rw [← hW1]; exact hI0.alloc _ (hI0.alloc _ h0)
  have hs1 : W1.heap[sb]? = w.heap[sb]? := by
    rw [← hW1]; exact (Below.heap_alloc _ _ _ (by simp; omega)).trans (Below.heap_alloc _ _ _ hsb)
  refine ⟨w.heap.size + 1, [{ target := .collected w.heap.size, args := #[] }], W1, { target := .fn (.func gf) lb, args := #[.func (.yield (w.heap.size + 1)) #[] #[]] }, W1, gf,
    #[.func (.yield (w.heap.size + 1)) #[] #[]] ++ lb, W1, ?_, ?_, ?_, ?_, fun _ => h1, ?_⟩
  · rw [← hW1, hrec]; exact run_enterLoop_outer _ _ _ _ _
  · simp only [resolve, hg]
    simp [go_sem]
  · intro f' hf'; simp [Target.leads] at hf'; subst hf'; exact hFg
  · simp [invoke, go_sem, eg]
  · have far : ∀ {A B : World} {row : Option Nat} {k : Nat} {o : Obj}, A.grownBy B row → (∀ r, row = some r → r = sb) → w.heap.size ≤ k → A.heap[k]? = some o → B.heap[k]? = some o := fun hg' hr hk ho =>
      (hg'.block _ (Array.getElem?_eq_some_iff.1 ho).1 (fun e => by have := hr _ e.symm; omega)).trans ho
    refine (hseq (w.heap.size + 1)
      (fun W => I0 W ∧ W.heap[w.heap.size + 1]? = some (.loop (rec .ready none)) ∧ W.heap[w.heap.size]? = some (.deferred (some [])))
      (fun W => I1 W ∧ W.heap[w.heap.size + 1]? = some (.loop (rec .ready none)) ∧ W.heap[w.heap.size]? = some (.deferred (some [])))
      W1
      (fun A B row hs hg' hr => ⟨hI0 A B row hs.1 hg' (fun r e => .inl (hr r e)), far hg' hr (by omega) hs.2.1, far hg' hr (by omega) hs.2.2⟩)
      (fun A B row hs hg' hr => ⟨hI1 A B row hs.1 hg' (fun r e => .inl (hr r e)), far hg' hr (by omega) hs.2.1, far hg' hr (by omega) hs.2.2⟩)
      ?_ ⟨hI1', hL1, hK1⟩ hs1).mono ?_
    · rintro W ⟨hi, hl, hk⟩
      have hlt : w.heap.size + 1 < W.heap.size := (Array.getElem?_eq_some_iff.1 hl).1
      have hy := run_yield (P := P) (args := args) hl (by rw [hrec]; exact hps)
      rw [hrec] at hy
      refine ⟨fn, _, assign, body, hy, roundIn_of_wpIn hfn (hassign _ W _ ⟨_, run_beginRound hl (by rw [hrec]), ?_⟩)⟩
      have hl2 : (W.putObj (w.heap.size + 1) (.loop { rec .ready none with state := .busy })).heap[w.heap.size + 1]? = some (.loop { rec .ready none with state := .busy }) := World.putObj_heap_same hlt
      have hk2 : (W.putObj (w.heap.size + 1) (.loop { rec .ready none with state := .busy })).heap[w.heap.size]? = some (.deferred (some [])) := (World.putObj_heap_other (by omega)).trans hk
      refine wpIn_mono (hbody _ _ (hI0.putObj _ hi (by omega) hl rfl) (by simp; omega)) ?_
      rintro e a3 W3 ⟨rfl, hk3, hi3, hsb3⟩
      have hl3 := hk3.same _ _ hl2 rfl
      have hr := run_endRound (P := P) none hl3
      rw [hrec] at hr
      have hl4 : W3.heap[w.heap.size + 1]? = some (.loop { rec .ready none with state := .busy }) := hl3
      rw [hrec] at hl4
      refine ⟨_, _, hr, rfl, ⟨hI1.putObj _ hi3 (by omega) hl4 rfl, ?_, (World.putObj_heap_other (by omega)).trans (hk3.same _ _ hk2 rfl)⟩, ?_⟩
      · rw [hrec]; exact World.putObj_heap_same (Array.getElem?_eq_some_iff.1 hl4).1
      · exact (World.putObj_heap_other (by omega)).trans (hsb3.trans (World.putObj_heap_other (by omega)))
    · rintro e W2 ⟨⟨v, rfl⟩, hi, hl, hk⟩
      exact ⟨none, _, by have := run_endLoop (P := P) hl (by rw [hrec]; simp); rw [hrec] at this; exact this, hdone _ _ (Nat.le_refl _) (hI1.putObj _ hi (by omega) hl rfl) ((World.putObj_heap_other (by omega)).trans hk)⟩
end Go.Vt
