/- What a call of the law hands back: nothing, or one closure over a cell in new memory. -/
import Derived.Test.YtgkamgijnhbcbaaGreatDoorNew
import Derived.Test.YtgkamgijnhbcbaaGreatDoorSeeAny
import Derived.WalkKit
import Derived.WalkSpells
import Derived.WalkLawsBesides
namespace Go.Proofs.YtgkamgijnhbcbaaGreatDoor
open Go.RowKit Go.Vt Go.Proofs
theorem gave_nil {n M0 : Nat} {W : World} : Gave Tryz.prog 3 9 tab n M0 W (.slice none 0 0) [] :=
  ⟨by simp, by simp, by simp, ⟨none, 0, 0, rfl, by simp, by simp, by simp⟩⟩
/-- One closure over a cell in new memory. -/
theorem gave_cell {n B T E f p : Nat} {t : CT} {c : C} {v : Value} {W : World} (hs : SeeOK Tryz.prog 3 9 tab n f [t]) (he : ∀ args w, (callFunc f args).run Tryz.prog w = .ok (.enter f args) w) (hB : B ≤ p) (hp : W.heap[p]? = some (.cells #[v] T (0, 0))) (hr : Rd (Nw B W) W c v) (ht : Ht tab t c) (hn : nodes c ≤ n) (hl : nodes c ≤ limO) :
    ∃ outs, Gave Tryz.prog 3 9 tab n B (W.alloc (Obj.cells #[Value.func (.func f) #[] #[.pointer (some ⟨p, 0, none⟩)]] E)) (.slice (some ⟨W.heap.size, 0, none⟩) 1 1) outs := by
  have hlt := (Array.getElem?_eq_some_iff.1 hp).1
  obtain ⟨W2, hW2⟩ : ∃ W2, W2 = W.alloc (Obj.cells #[Value.func (.func f) #[] #[.pointer (some ⟨p, 0, none⟩)]] E) := ⟨_, rfl⟩
  have s2 : W2.heap.size = W.heap.size + 1 := by rw [hW2, alloc_size]
  have b2 : Below W.heap.size W W2 := by rw [hW2]; exact (Below.refl _ _).alloc (Nat.le_refl _) _
  have x2 : W2.heap[p]? = some (.cells #[v] T (0, 0)) := (b2.block _ hlt).trans hp
  have y2 : W2.heap[W.heap.size]? = some (.cells #[Value.func (.func f) #[] #[.pointer (some ⟨p, 0, none⟩)]] E (0, 0)) := by rw [hW2]; exact heap_alloc_new W _
  rw [← hW2]
  refine ⟨[⟨f, p, [t], [c], fun k => B ≤ k ∧ k < W.heap.size ∧ ∃ c e, W2.heap[k]? = some (.cells c e (0, 0))⟩], by simp, fun o ho => ?_, fun i j oi oj hij hi hj => ?_, some ⟨W.heap.size, 0, none⟩, 1, W.heap.size, rfl, fun _ => ⟨rfl, by omega, by omega⟩, fun o ho => ?_, fun j o hj => ?_⟩
  · obtain rfl := List.mem_singleton.1 ho
    refine ⟨hs, he, by simp only [HtRow]; exact ⟨ht, trivial⟩, ?_, ⟨hB, hlt, _, _, x2⟩, fun k hk => ⟨hk.1, by have := hk.2.1; omega, hk.2.2⟩, by simpa [nodesRow] using hn, by simpa [nodesRow] using hl⟩
    simp only [RdRow, and_true]
    refine ⟨v, cell_of_row _ _ 0 _ _ _ x2, Rd.mono (fun k hk => ?_) _ _ hr⟩
    obtain ⟨g1, g2, cc, e, g3⟩ := hk
    have := b2.block k g2
    exact ⟨⟨g1, g2, cc, e, this.trans g3⟩, this⟩
  · have h1 := (List.getElem?_eq_some_iff.1 hi).1
    have h2 := (List.getElem?_eq_some_iff.1 hj).1
    simp only [List.length_cons, List.length_nil] at h1 h2
    omega
  · obtain rfl := List.mem_singleton.1 ho
    intro h; have := h.2.1; omega
  · cases j with
    | zero => simp at hj; subst hj; exact cell_of_row _ _ 0 _ _ _ y2
    | succ j => simp at hj
end Go.Proofs.YtgkamgijnhbcbaaGreatDoor
