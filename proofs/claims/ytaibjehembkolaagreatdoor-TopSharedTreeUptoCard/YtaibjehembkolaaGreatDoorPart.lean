/- What a comparison of two looks answers. -/
import Derived.Test.YtaibjehembkolaaGreatDoorOwn2
import Derived.Deep.Draws
namespace Go.Vt
open Go.RowKit

/-- A slice that reads as these values, a cell each. -/
def ReadsAt (w : World) (v : Value) (xs : List Value) : Prop :=
  ∃ a cap g, v = .slice a xs.length cap ∧ (xs ≠ [] → a = some ⟨g, 0, none⟩ ∧ g < w.heap.size) ∧ ∀ j u, xs[j]? = some u → w.cell? ⟨g, j, none⟩ = some u
theorem ReadsAt.of_own {w : World} {B e : Nat} {v : Value} {n : Nat} {xs : List Value} (h : w.ownsRow B e 1 v n xs) : ReadsAt w v xs := by
  have hl := h.1
  rcases h.2 with ⟨rfl, rfl⟩ | ⟨g, cap, cur, rfl, _, hg, _, _, hs, ht⟩
  · have : xs = [] := List.length_eq_zero_iff.1 (by simpa using hl)
    subst this
    exact ⟨none, 0, 0, rfl, by simp, by simp⟩
  · refine ⟨some ⟨g, 0, none⟩, cap, g, by rw [hl, Nat.mul_one], fun _ => ⟨rfl, (Array.getElem?_eq_some_iff.1 hg).1⟩, fun j u hu => ?_⟩
    have := h.cells (g := g) rfl j u hu
    rw [show (⟨g, j, none⟩ : Addr) = (⟨g, 0, none⟩ : Addr).add j from by simp only [Addr.add]; split <;> simp_all]; exact this
theorem ReadsAt.keep {w w' : World} {v : Value} {xs : List Value} (h : ReadsAt w v xs) (hb : Below w.heap.size w w') : ReadsAt w' v xs := by
  obtain ⟨a, cap, g, h1, h2, h3⟩ := h
  refine ⟨a, cap, g, h1, fun hx => ⟨(h2 hx).1, Nat.lt_of_lt_of_le (h2 hx).2 hb.size⟩, fun j u hu => ?_⟩
  have hx : xs ≠ [] := by intro e; subst e; simp at hu
  exact (hb.cell (p := ⟨g, j, none⟩) (h2 hx).2).trans (h3 j u hu)
/-- An eye by value. -/
structure EyeR (w : World) (v : Value) (ns : List Int) (ss : List ByteArray) : Prop where
  ex : ∃ nv sv m a r, v = .agg #[nv, sv, .bool m, .int .i64 a, .bool r] ∧ ReadsAt w nv (ns.map (Value.int .i64)) ∧ ReadsAt w sv (ss.map Value.string)
  ln : ns.length ≤ lim
  ls : ss.length ≤ lim
def IsBool (e : Ending) : Prop := ∃ b, e = .returned (.bool b)
def GreatOK (P : Program) (f : FuncId) : Prop :=
  ∀ (w : World) (v : Value) (ns : List Int) (ss : List ByteArray), EyeR w v ns ss → Calls P f #[v] w fun e w' => IsBool e ∧ Below w.heap.size w w'
def SameOK (P : Program) (f : FuncId) : Prop :=
  ∀ (w : World) (v u : Value) (ns : List Int) (ss : List ByteArray), EyeR w v ns ss → EyeR w u ns ss → Calls P f #[v, u] w fun e w' => e = .returned (.bool true) ∧ Below w.heap.size w w'
theorem below_drewN {B : Nat} {w w' : World} (h : Below B w w') (n : Nat) : Below B w (w'.drewN n) := ⟨h.os, h.tape, h.output, h.size, h.block⟩
end Go.Vt
